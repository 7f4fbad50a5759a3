/-
  What is proved here serves the law's text: each part says its own claim and its conditions. No condition is left open.
-/
import Derived.Test.YtgnhnapnjmbieaaKP
import Derived.Test.YtgnhnapnjmbieaaKO
import Derived.Test.YtgnhnapnjmbieaaKI
import Derived.Test.YtgnhnapnjmbieaaKJ
set_option linter.unusedSimpArgs false
set_option linter.unusedVariables false

/-
  What Break makes of an event, part by part. Plain Lean. No condition.
-/
namespace Go.Ab.V
open Go.Proofs

/-- the parts of an event that lasts from a to b, from x on -/
inductive Parts (bar : Nat) (e : Evt) (a b : Nat) : Nat → List Evt → Prop
  | done : Parts bar e a b b []
  | step {x : Nat} {f : Evt} {g : List Evt} (hx : x < b) (ht : 0 < tkE f) (hb : x + tkn f ≤ b) (hm : x + tkn f ≤ (x / bar + 1) * bar) (hbar : f.bar = decide (0 < x ∧ x % bar = 0))
      (htie : f.tie = if x = a then e.tie else !restE e) (hst : f.stops = if x = a then e.stops else []) (h : Parts bar e a b (x + tkn f) g) : Parts bar e a b x (f :: g)

theorem parts_seg {bar : Nat} {e : Evt} {a b x y : Nat} (h0 : 0 < bar) (hax : a ≤ x) (hyb : y ≤ b) (hym : y ≤ (x / bar + 1) * bar) {g : List Evt} (hg : Parts bar e a b y g) :
    ∀ (l : List Sgn) (k t : Nat), (∀ s ∈ l, 0 < s.tk) → t + sumT l = y → x ≤ t → (k = 0 ↔ t = x) → Parts bar e a b t (l.mapIdx (fun j s => evP bar e a x (k + j) s) ++ g)
  | [], k, t, _, hs, _, _ => by
    simp only [sumT, Nat.add_zero] at hs
    subst hs
    exact hg
  | s :: l, k, t, hp, hs, hxt, hk => by
    have hp0 := hp s (List.mem_cons_self ..)
    simp only [sumT] at hs
    have ih := parts_seg h0 hax hyb hym hg l (k + 1) (t + s.tk.toNat) (fun z hz => hp z (List.mem_cons_of_mem _ hz)) (by omega) (by omega) (by omega)
    rw [List.mapIdx_cons, List.cons_append]
    have htk : tkE (evP bar e a x (k + 0) s) = s.tk := rfl
    have htn : tkn (evP bar e a x (k + 0) s) = s.tk.toNat := rfl
    have hq : t / bar = x / bar ∨ t = y := by
      rcases Nat.lt_or_ge t y with h | h
      · left
        have e2 := Nat.div_add_mod x bar
        have e3 := Nat.mod_lt x h0
        apply Nat.le_antisymm
        · have : t < (x / bar + 1) * bar := by omega
          rw [Nat.mul_comm] at this
          exact Nat.lt_succ_iff.1 (Nat.div_lt_of_lt_mul this)
        · exact Nat.div_le_div_right hxt
      · exact .inr (by omega)
    refine .step (by omega) (by rw [htk]; exact hp0) (by rw [htn]; omega) ?_ ?_ ?_ ?_ ?_
    · rw [htn]
      rcases hq with h | h
      · rw [h]; omega
      · omega
    · show decide (k + 0 = 0 ∧ 0 < x ∧ x % bar = 0) = _
      rw [decide_eq_decide, Nat.add_zero]
      by_cases hk0 : k = 0
      · have := hk.1 hk0
        subst this
        simp [hk0]
      · have htx : x < t := by
          rcases Nat.lt_or_ge x t with h | h
          · exact h
          · exact absurd (hk.2 (by omega)) hk0
        constructor
        · intro h; exact absurd h.1 hk0
        · rintro ⟨h1, h2⟩
          rcases Nat.lt_or_ge t y with h | h
          · exact absurd h2 (mod_in h0 htx h hym)
          · omega
    · show (if x = a ∧ k + 0 = 0 then e.tie else !restE e) = _
      by_cases hk0 : k = 0
      · have := hk.1 hk0
        subst this
        simp [hk0]
      · have htx : x < t := by
          rcases Nat.lt_or_ge x t with h | h
          · exact h
          · exact absurd (hk.2 (by omega)) hk0
        rw [if_neg (by omega), if_neg (by omega)]
    · show (if x = a ∧ k + 0 = 0 then e.stops else []) = _
      by_cases hk0 : k = 0
      · have := hk.1 hk0
        subst this
        simp [hk0]
      · have htx : x < t := by
          rcases Nat.lt_or_ge x t with h | h
          · exact h
          · exact absurd (hk.2 (by omega)) hk0
        rw [if_neg (by omega), if_neg (by omega)]
    · rw [htn]
      have e1 : (fun (j : Nat) (s : Sgn) => evP bar e a x (k + (j + 1)) s) = fun j s => evP bar e a x (k + 1 + j) s := by
        funext j s
        rw [show k + (j + 1) = k + 1 + j by omega]
      rw [e1]
      exact ih
theorem brkF_parts {bar : Nat} {e : Evt} {a b : Nat} (h0 : 0 < bar) (hab : b = a + tkn e) (ht : 0 < tkE e) : ∀ (n x : Nat) (g : List Evt), b - x ≤ n → a ≤ x → x ≤ b → brkF bar e a b x = some g → Parts bar e a b x g
  | n, x, g, hn, hax, hxb, h => by
    by_cases hx : x < b
    · cases hs : segS e.sg a b x (nxtB bar x b) with
      | none => rw [brkF_none hx hs] at h; cases h
      | some l =>
        rw [brkF_some h0 hx hs, Option.map_eq_some_iff] at h
        obtain ⟨g', h1, rfl⟩ := h
        have h2 := nxtB_gt h0 hx
        obtain ⟨s1, s2⟩ := segS_sum hs h2.1 hab ht
        match n, hn with
        | 0, hn => omega
        | n + 1, hn =>
          have ih := brkF_parts h0 hab ht n _ g' (by omega) (by omega) h2.2.1 h1
          have := parts_seg (x := x) h0 hax h2.2.1 h2.2.2 ih l 0 x s2 (by omega) (Nat.le_refl _) (by simp)
          simp only [Nat.zero_add] at this
          exact this
    · rw [brkF_end (by omega)] at h
      cases h
      obtain rfl : x = b := by omega
      exact .done
theorem brkE_parts {bar : Nat} {e : Evt} {a : Nat} {g : List Evt} (h0 : 0 < bar) (ht : 0 < tkE e) (h : brkE bar e a = some g) : Parts bar e a (a + tkn e) a g :=
  brkF_parts h0 rfl ht _ _ _ (Nat.le_refl _) (Nat.le_refl _) (by omega) h

end Go.Ab.V

/-
  A broken piece is valid. Plain Lean. No condition.
-/
namespace Go.Ab.V
open Go.Proofs

/-! ### validity, event by event from the end on -/
structure EvOk (i : Ins) (e : Evt) (r : List Evt) : Prop where
  rt : right e.v e.d e.t = true
  ti : ¬ (e.tie = true ∧ 0 < e.stops.length)
  st : StpsOk i (fun c => (longL c 15 r : Nat)) 0 e.stops
def SufOk (i : Ins) : List Evt → Prop
  | [] => True
  | e :: r => EvOk i e r ∧ SufOk i r
theorem SufOk.at {i : Ins} : ∀ {l : List Evt} {j : Nat}, SufOk i l → ∀ h : j < l.length, EvOk i l[j] (l.drop (j + 1))
  | e :: r, 0, h, _ => by simpa using h.1
  | e :: r, j + 1, h, hj => by simpa using SufOk.at (l := r) (j := j) h.2 (by simpa using hj)
theorem SufOk.of {i : Ins} : ∀ {l : List Evt}, (∀ j (h : j < l.length), EvOk i l[j] (l.drop (j + 1))) → SufOk i l
  | [], _ => trivial
  | e :: r, h => ⟨h 0 (by simp), SufOk.of fun j hj => h (j + 1) (by simpa using hj)⟩
theorem stps_eq {i : Ins} {lg lg' : Int → Int} (h : ∀ c, lg c = lg' c) {l : List Stp} {last : Int} : StpsOk i lg last l ↔ StpsOk i lg' last l := by
  rw [show lg = lg' from funext h]
theorem chk_suf {p : Pc} : chk p = 0 ↔ chkIn p.ins = 0 ∧ p.evs.length ≤ 400 ∧ SufOk p.ins p.evs ∧ ∀ h : 0 < p.evs.length, p.evs[0].v ≠ 0 ∧ p.evs[0].tie = false := by
  rw [chk_iff]
  constructor
  · rintro ⟨h1, h2, h3⟩
    refine ⟨h1, h2, SufOk.of fun j hj => ?_, fun h => ?_⟩
    · obtain ⟨q1, q2, q3, q4⟩ := chkEv_iff.1 (h3 j hj)
      exact ⟨q1, fun x => q3 ⟨x.1, .inr x.2⟩, (stps_eq fun c => longest_at hj c).1 q4⟩
    · obtain ⟨q1, q2, q3, q4⟩ := chkEv_iff.1 (h3 0 h)
      refine ⟨fun x => q2 ⟨rfl, x⟩, ?_⟩
      cases ht : (p.evs[0]).tie with
      | true => exact absurd ⟨ht, .inl rfl⟩ q3
      | false => rfl
  · rintro ⟨h1, h2, h3, h4⟩
    refine ⟨h1, h2, fun j hj => chkEv_iff.2 ?_⟩
    obtain ⟨q1, q2, q3⟩ := h3.at hj
    refine ⟨q1, ?_, ?_, (stps_eq fun c => longest_at hj c).2 q3⟩
    · rintro ⟨x, y⟩
      have hj0 : j = 0 := by omega
      subst hj0
      exact (h4 hj).1 y
    · rintro ⟨x, y⟩
      rcases y with y | y
      · have hj0 : j = 0 := by omega
        subst hj0
        have := (h4 hj).2
        rw [this] at x
        cases x
      · exact q2 ⟨x, y⟩

/-! ### what a hold passes -/
def okC (c : Int) (e : Evt) : Prop := restE e = false ∧ hasC e.stops c = false
theorem longL_ge {c : Int} : ∀ {k n : Nat} {l : List Evt}, k ≤ n → k ≤ l.length → (∀ j (h : j < l.length), j < k → okC c l[j]) → k ≤ longL c n l
  | 0, _, _, _, _, _ => Nat.zero_le _
  | k + 1, n + 1, e :: r, h1, h2, h3 => by
    have h0 := h3 0 (by simp) (by omega)
    simp only [List.getElem_cons_zero] at h0
    rw [longL, if_neg (by rw [h0.1, h0.2]; decide)]
    have := longL_ge (c := c) (k := k) (n := n) (l := r) (by omega) (by simpa using h2) fun j hj hk => h3 (j + 1) (by simpa using hj) (by omega)
    omega
  | k + 1, 0, _, h1, _, _ => by omega
  | k + 1, _ + 1, [], _, h2, _ => by simp at h2
theorem longL_ok {c : Int} : ∀ {n : Nat} {l : List Evt} {j : Nat} (h : j < l.length), j < longL c n l → okC c l[j]
  | 0, _, _, _, h2 => by simp [longL] at h2
  | n + 1, e :: r, j, h, h2 => by
    rw [longL] at h2
    split at h2
    · omega
    · rename_i h0
      have h0 : restE e = false ∧ hasC e.stops c = false := by
        rw [Bool.not_eq_true, Bool.or_eq_false_iff] at h0
        exact h0
      cases j with
      | zero => exact h0
      | succ j => exact longL_ok (n := n) (l := r) (j := j) (by simpa using h) (by omega)
theorem hasC_map {f : Stp → Stp} (hf : ∀ s, (f s).c = s.c) (l : List Stp) (c : Int) : hasC (l.map f) c = hasC l c := by
  unfold hasC
  rw [List.any_map]
  congr 1
  funext s
  show ((f s).c == c) = _
  rw [hf]
theorem holdB_c (F : List Nat) (i : Nat) (s : Stp) : (holdB F i s).c = s.c := by unfold holdB; split <;> rfl
theorem okC_evB {c : Int} {F : List Nat} {i : Nat} {e : Evt} (h : okC c e) : okC c (evB F i e) := by
  refine ⟨?_, ?_⟩
  · rw [← h.1]; simp [restE, evB, evS]
  · rw [← h.2]; exact hasC_map (holdB_c F i) _ _
theorem okC_first {c : Int} {e f : Evt} (h1 : f.stops = e.stops) (h2 : f.tie = e.tie) (h : okC c e) : okC c f := by
  unfold okC restE at *
  rw [h1, h2]
  exact h
theorem okC_later {c : Int} {e f : Evt} (h1 : f.stops = []) (h2 : f.tie = !restE e) (h : restE e = false) : okC c f := by
  unfold okC
  rw [h1]
  refine ⟨?_, rfl⟩
  unfold restE
  rw [h1, h2, h]
  rfl
theorem parts_later {bar : Nat} {e : Evt} {a b : Nat} (hab : a < b) : ∀ {x : Nat} {g : List Evt}, Parts bar e a b x g → a < x → ∀ f ∈ g, f.stops = [] ∧ f.tie = !restE e
  | _, _, .done, _, f, hf => by cases hf
  | x, _, .step hx ht hb hm hbar htie hst h, hax, f, hf => by
    rcases List.mem_cons.1 hf with rfl | hf
    · rw [if_neg (by omega)] at htie hst
      exact ⟨hst, htie⟩
    · exact parts_later hab h (by omega) f hf
/-- a group is its first event, and ties behind it -/
theorem parts_first {bar : Nat} {e : Evt} {a b : Nat} (hab : a < b) {g : List Evt} (h : Parts bar e a b a g) : ∃ f t, g = f :: t ∧ f.stops = e.stops ∧ f.tie = e.tie ∧ ∀ x ∈ t, x.stops = [] ∧ x.tie = !restE e := by
  cases h with
  | done => omega
  | step hx ht hb hm hbar htie hst h =>
    rename_i f g
    rw [if_pos rfl] at htie hst
    have ht2 : 0 < tkn f := by unfold tkn; omega
    exact ⟨f, g, rfl, hst, htie, parts_later hab h (by omega)⟩
theorem parts_right {bar : Nat} {e : Evt} {a b : Nat} : ∀ {x : Nat} {g : List Evt}, Parts bar e a b x g → ∀ f ∈ g, right f.v f.d f.t = true ∧ f.v ≠ 0
  | _, _, .done, f, hf => by cases hf
  | x, _, .step hx ht hb hm hbar htie hst h, f, hf => by
    rcases List.mem_cons.1 hf with rfl | hf
    · have h1 : 0 < ticks f.v f.d f.t := ht
      rw [ticks_pos] at h1
      refine ⟨?_, by omega⟩
      unfold right
      rw [if_neg (by omega)]
      obtain ⟨q1, q2, q3⟩ := h1
      simp [q1, q2, q3]
    · exact parts_right h f hf
/-- what the groups of a list of events are -/
inductive Grps (bar : Nat) : Nat → List Evt → List (List Evt) → Prop
  | nil {a : Nat} : Grps bar a [] []
  | cons {a : Nat} {e : Evt} {r : List Evt} {g : List Evt} {G : List (List Evt)} (h : Parts bar e a (a + tkn e) a g) (hG : Grps bar (a + tkn e) r G) : Grps bar a (e :: r) (g :: G)
theorem brkL_grps {bar : Nat} (h0 : 0 < bar) : ∀ {l : List Evt} {a : Nat} {G : List (List Evt)}, (∀ e ∈ l, 0 < tkE e) → brkL bar a l = some G → Grps bar a l G
  | [], _, G, _, h => by
    simp only [brkL, Option.some.injEq] at h
    subst h
    exact .nil
  | e :: r, a, G, ht, h => by
    simp only [brkL] at h
    split at h
    · cases h
    · rename_i m hm
      rw [Option.map_eq_some_iff] at h
      obtain ⟨G', h1, rfl⟩ := h
      exact .cons (brkE_parts h0 (ht e (List.mem_cons_self ..)) hm) (brkL_grps h0 (fun x hx => ht x (List.mem_cons_of_mem _ hx)) h1)
theorem grps_len {bar : Nat} : ∀ {a : Nat} {l : List Evt} {G : List (List Evt)}, Grps bar a l G → G.length = l.length
  | _, _, _, .nil => rfl
  | _, _, _, .cons _ hG => by simp [grps_len hG]
theorem fstL_shift : ∀ (G : List (List Evt)) (h c : Nat), h < G.length → (fstL c G).getD h 0 = c + (fstL 0 G).getD h 0
  | g :: G, 0, c, _ => by simp [fstL]
  | g :: G, h + 1, c, hh => by
    have h2 : h < G.length := by simpa using hh
    simp only [fstL, List.getD_cons_succ, Nat.zero_add]
    rw [fstL_shift G h (c + g.length) h2, fstL_shift G h g.length h2]
    omega
/-- what a hold passes of the groups -/
theorem okC_run {bar : Nat} {c : Int} {F : List Nat} : ∀ {a i : Nat} {l : List Evt} {G : List (List Evt)}, Grps bar a l G → (∀ e ∈ l, 0 < tkn e) → ∀ h (hh : h < l.length), (∀ j (hj : j < l.length), j ≤ h → okC c l[j]) →
    ∀ t, t ≤ (fstL 0 G).getD h 0 → ∃ ht : t < (brkO F i G).length, okC c (brkO F i G)[t]
  | a, i, _, _, .nil, _, h, hh, _ => by simp at hh
  | a, i, e :: r, _, .cons (g := g) (G := G) hp hG, ht, h, hh, hok => by
    have hte := ht e (List.mem_cons_self ..)
    obtain ⟨f, tl, rfl, q1, q2, q3⟩ := parts_first (by omega) hp
    have he : okC c e := hok 0 (by simp) (by omega)
    intro t htt
    have hfst : ∀ t, t < (f :: tl).length → ∃ ht : t < (brkO F i ((f :: tl) :: G)).length, okC c (brkO F i ((f :: tl) :: G))[t] := by
      intro t h2
      have hl : t < (brkG F i (f :: tl)).length := by rw [brkG_len]; exact h2
      refine ⟨by simp only [brkO, List.length_append]; omega, ?_⟩
      have : (brkO F i ((f :: tl) :: G))[t]'(by simp only [brkO, List.length_append]; omega) = (brkG F i (f :: tl))[t] := by simp only [brkO]; rw [List.getElem_append_left hl]
      rw [this]
      cases t with
      | zero => exact okC_evB (okC_first q1 q2 he)
      | succ t =>
        have hm : tl[t]'(by simpa using h2) ∈ tl := List.getElem_mem _
        obtain ⟨u1, u2⟩ := q3 _ hm
        exact okC_later u1 u2 he.1
    cases h with
    | zero =>
      have : t = 0 := by simpa [fstL] using htt
      subst this
      exact hfst 0 (by simp)
    | succ h =>
      rcases Nat.lt_or_ge t (f :: tl).length with h2 | h2
      · exact hfst t h2
      · have hh2 : h < r.length := by simpa using hh
        have e1 : (fstL 0 ((f :: tl) :: G)).getD (h + 1) 0 = (f :: tl).length + (fstL 0 G).getD h 0 := by
          simp only [fstL, List.getD_cons_succ, Nat.zero_add]
          exact fstL_shift G h _ (by rw [grps_len hG]; exact hh2)
        obtain ⟨u1, u2⟩ := okC_run (F := F) (i := i + 1) hG (fun x hx => ht x (List.mem_cons_of_mem _ hx)) h hh2 (fun j hj hjh => hok (j + 1) (by simpa using hj) (by omega)) (t - (f :: tl).length) (by omega)
        have hl : (brkG F i (f :: tl)).length = (f :: tl).length := brkG_len _ _ _
        refine ⟨by simp only [brkO, List.length_append]; omega, ?_⟩
        have : (brkO F i ((f :: tl) :: G))[t]'(by simp only [brkO, List.length_append]; omega) = (brkO F (i + 1) G)[t - (f :: tl).length] := by
          simp only [brkO]
          rw [List.getElem_append_right (by omega)]
          simp only [hl]
        rw [this]
        exact u2
end Go.Ab.V

/-
  A broken piece is valid, the end. Plain Lean. No condition.
-/
namespace Go.Ab.V
open Go.Proofs

theorem suf_app {i : Ins} : ∀ {l m : List Evt}, (∀ f ∈ l, right f.v f.d f.t = true ∧ f.stops = []) → SufOk i m → SufOk i (l ++ m)
  | [], _, _, h => h
  | f :: l, m, hl, h => by
    obtain ⟨h1, h2⟩ := hl f (List.mem_cons_self ..)
    refine ⟨⟨h1, ?_, ?_⟩, suf_app (fun x hx => hl x (List.mem_cons_of_mem _ hx)) h⟩
    · rw [h2]; simp
    · rw [h2]; trivial
theorem stps_holdB {i : Ins} {F : List Nat} {k : Nat} {lg lg' : Int → Int} : ∀ {l : List Stp} {last : Int},
    (∀ s ∈ l, 0 < s.h → s.h ≤ lg s.c → 0 ≤ (holdB F k s).h ∧ (holdB F k s).h ≤ lg' s.c) → (∀ c, 0 ≤ lg' c) → StpsOk i lg last l → StpsOk i lg' last (l.map (holdB F k))
  | [], _, _, _, _ => trivial
  | s :: r, last, hh, h0, ⟨h1, h2⟩ => by
    refine ⟨?_, ?_⟩
    · rw [chkStop_iff] at h1 ⊢
      have q := hh s (List.mem_cons_self ..)
      have q0 := h0 s.c
      unfold holdB at q ⊢
      split
      · rename_i hp
        rw [if_pos hp] at q
        have := q hp (by omega)
        dsimp only at this ⊢
        have := h1.2.2.2.2.2.2 hp
        omega
      · omega
    · rw [holdB_c]
      exact stps_holdB (fun x hx => hh x (List.mem_cons_of_mem _ hx)) h0 h2
theorem brk_suf {bar : Nat} {F : List Nat} {ins : Ins} : ∀ {a i c : Nat} {l : List Evt} {G : List (List Evt)}, Grps bar a l G → (∀ e ∈ l, 0 < tkn e) → SufOk ins l → badL F i l = false →
    (∀ j, j < G.length → F.getD (i + j) 0 = c + (fstL 0 G).getD j 0) → SufOk ins (brkO F i G)
  | _, _, _, _, _, .nil, _, _, _, _ => trivial
  | a, i, c, e :: r, _, .cons (g := g) (G := G) hp hG, ht, hs, hb, hF => by
    have hte := ht e (List.mem_cons_self ..)
    have htr : ∀ x ∈ r, 0 < tkn x := fun x hx => ht x (List.mem_cons_of_mem _ hx)
    have hgl := grps_len hG
    have hrt := parts_right hp
    obtain ⟨f, tl, rfl, q1, q2, q3⟩ := parts_first (by omega) hp
    unfold badL at hb
    rw [Bool.or_eq_false_iff] at hb
    have hF1 : ∀ j, j < G.length → F.getD (i + 1 + j) 0 = c + (f :: tl).length + (fstL 0 G).getD j 0 := by
      intro j hj
      rw [show i + 1 + j = i + (j + 1) by omega, hF (j + 1) (by simp only [List.length_cons]; omega)]
      simp only [fstL, List.getD_cons_succ, Nat.zero_add]
      rw [fstL_shift G j _ hj]
      omega
    have hF0 : F.getD i 0 = c := by
      have := hF 0 (by simp)
      simpa [fstL] using this
    have ih := brk_suf (c := c + (f :: tl).length) hG htr hs.2 hb.2 hF1
    show SufOk ins (evB F i f :: (tl ++ brkO F (i + 1) G))
    refine ⟨⟨?_, ?_, ?_⟩, suf_app (fun x hx => ⟨(hrt x (List.mem_cons_of_mem _ hx)).1, (q3 x hx).1⟩) ih⟩
    · exact (hrt f (List.mem_cons_self ..)).1
    · have := hs.1.ti
      rw [← q1, ← q2] at this
      simpa [evB, evS] using this
    · show StpsOk ins _ 0 (f.stops.map (holdB F i))
      rw [q1]
      refine stps_holdB ?_ (fun c => by omega) hs.1.st
      intro s hs0 hp0 hlg
      have hbs : longH F i s = false := by
        have := List.any_eq_false.1 hb.1 s hs0
        simpa using this
      unfold longH at hbs
      rw [decide_eq_false_iff_not] at hbs
      unfold holdB at hbs ⊢
      rw [if_pos hp0] at hbs ⊢
      dsimp only at hbs ⊢
      obtain ⟨h, hh⟩ : ∃ h, s.h.toNat = h + 1 := ⟨s.h.toNat - 1, by omega⟩
      have hll := longL_len s.c 15 r
      have hll2 := longL_le s.c 15 r
      have hhr : h < r.length := by omega
      have hgh : h < G.length := by omega
      rw [hh, show i + (h + 1) = i + 1 + h by omega, hF0, hF1 h hgh] at hbs ⊢
      have hre : restE e = false := by
        unfold restE
        have : e.stops.length ≠ 0 := by
          intro h0
          rw [List.length_eq_zero_iff.1 h0] at hs0
          cases hs0
        simp [this]
      have hok : ∀ j (hj : j < r.length), j ≤ h → okC s.c r[j] := fun j hj hjh => longL_ok hj (n := 15) (by omega)
      have hrun := okC_run (F := F) (i := i + 1) hG htr h hhr hok
      simp only [List.length_cons] at hbs ⊢
      obtain ⟨w1, -⟩ := hrun _ (Nat.le_refl _)
      have hge : tl.length + 1 + (fstL 0 G).getD h 0 ≤ longL s.c 15 (tl ++ brkO F (i + 1) G) := by
        refine longL_ge (by omega) (by rw [List.length_append]; omega) fun j hj hk => ?_
        by_cases hjt : j < tl.length
        · rw [List.getElem_append_left hjt]
          obtain ⟨u1, u2⟩ := q3 _ (List.getElem_mem hjt)
          exact okC_later u1 u2 hre
        · rw [List.getElem_append_right (by omega)]
          exact (hrun (j - tl.length) (by omega)).2
      omega
theorem pln_tk {p : Pc} (hc : chk p = 0) : ∀ e ∈ outE plnS sz p.evs, 0 < tkE e := by
  intro e he
  rw [outE_pln] at he
  obtain ⟨i, hi, rfl⟩ := List.getElem_of_mem he
  have hil : i < p.evs.length := by simpa [nfs_len] using hi
  have hin : i < (nfs sz p.evs).length := by rw [nfs_len]; exact hil
  have := nfs_tk p.evs sz right_z (chk_right hc) (fun _ => chk_first hc) _ (List.getElem_mem hin)
  simp only [List.getElem_zipWith]
  exact this
theorem brk_chk {p q : Pc} {bar : Int} (h : brkP p bar = .ok q) : chk q = 0 := by
  obtain ⟨hc, hb1, hb2, G, hG, hl, hbad, rfl⟩ := brk_ok h
  have hP := pln_chk hc
  have hc2 := chk_suf.1 hP
  obtain ⟨h1, h2, h3, h4⟩ := hc2
  have htk : ∀ e ∈ outE plnS sz p.evs, 0 < tkE e := pln_tk hc
  have htn : ∀ e ∈ outE plnS sz p.evs, 0 < tkn e := fun e he => by have := htk e he; unfold tkn; omega
  have hg := brkL_grps (by omega) htk hG
  have hF : ∀ j, j < G.length → (fstL 0 G).getD (0 + j) 0 = 0 + (fstL 0 G).getD j 0 := fun j _ => by simp
  have hS := brk_suf (F := fstL 0 G) (i := 0) (c := 0) hg htn h3 hbad hF
  refine chk_suf.2 ⟨h1, by show (brkO _ _ _).length ≤ 400; rw [brkO_len]; exact hl, hS, ?_⟩
  show ∀ h : 0 < (brkO (fstL 0 G) 0 G).length, _
  obtain ⟨P, hPe⟩ : ∃ P, P = outE plnS sz p.evs := ⟨_, rfl⟩
  rw [← hPe] at hg htn h4
  cases hg with
  | nil => intro h; simp [brkO] at h
  | cons hp hG' =>
    rename_i e r g G'
    have hrt := parts_right hp
    have he := htn e (List.mem_cons_self ..)
    obtain ⟨f, tl, rfl, q1, q2, q3⟩ := parts_first (by omega) hp
    intro h
    refine ⟨(hrt f (List.mem_cons_self ..)).2, ?_⟩
    show f.tie = false
    rw [q2]
    exact (h4 (by simp)).2
end Go.Ab.V

/-
  The law PieceTorn is true at every input.
-/
namespace Go.Ab.V
open Go.Proofs

theorem eqBy_plc : ∀ {l m : List Stp}, l.map (fun s => (s.c, s.f)) = m.map (fun s => (s.c, s.f)) → eqBy plB l m = true
  | [], [], _ => rfl
  | [], _ :: _, h => by simp at h
  | _ :: _, [], h => by simp at h
  | a :: l, b :: m, h => by
    simp only [List.map_cons, List.cons.injEq, Prod.mk.injEq] at h
    rw [eqBy, eqBy_plc h.2, plB, h.1.1, h.1.2]
    simp
end Go.Ab.V

/-
  The measures and the onsets of a broken piece. Plain Lean. No condition.
-/
namespace Go.Ab.V
open Go.Proofs

/-- the events of a list stand between the bars -/
def Bsd (bar : Nat) : Nat → List Evt → Prop
  | _, [] => True
  | x, f :: r => (0 < tkE f ∧ x + tkn f ≤ (x / bar + 1) * bar ∧ f.bar = decide (0 < x ∧ x % bar = 0)) ∧ Bsd bar (x + tkn f) r
theorem bsd_parts {bar : Nat} {e : Evt} {a b : Nat} {m : List Evt} (hm : Bsd bar b m) : ∀ {x : Nat} {g : List Evt}, Parts bar e a b x g → Bsd bar x (g ++ m)
  | _, _, .done => hm
  | x, _, .step hx ht hb hm' hbar htie hst h => ⟨⟨ht, hm', hbar⟩, bsd_parts hm h⟩
theorem bsd_brkG {bar x i : Nat} {F : List Nat} {g m : List Evt} (h : Bsd bar x (g ++ m)) : Bsd bar x (brkG F i g ++ m) := by
  cases g with
  | nil => exact h
  | cons f tl => exact h
theorem bsd_brkO {bar : Nat} {F : List Nat} : ∀ {a i : Nat} {l : List Evt} {G : List (List Evt)}, Grps bar a l G → Bsd bar a (brkO F i G)
  | _, _, _, _, .nil => trivial
  | a, i, e :: r, _, .cons hp hG => bsd_brkG (bsd_parts (bsd_brkO hG) hp)
theorem bsd_tk {bar : Nat} : ∀ {l : List Evt} {x : Nat}, Bsd bar x l → ∀ e ∈ l, 0 < tkE e
  | _ :: _, _, h, e, he => by
    rcases List.mem_cons.1 he with rfl | he
    · exact h.1.1
    · exact bsd_tk h.2 e he

/-! ### the measures -/
def MInv (bar : Nat) (ms : List M3) (x : Nat) : Prop := (ms = [] ∧ x = 0) ∨ ∃ (pre : List M3) (m : M3) (q t : Nat), ms = pre ++ [m] ∧ (∀ y ∈ pre, y.t = (bar : Int)) ∧ m.t = (t : Int) ∧ 0 < t ∧ t ≤ bar ∧ x = q * bar + t
theorem frc_tk {f : Int} {e : Evt} (h : 0 < tkE e) : frc f e = tkE e := by
  unfold tkE at h
  have h1 := h
  rw [ticks_pos] at h1
  unfold frc
  rw [if_pos (by omega)]
  rfl
theorem minv_step {bar : Nat} (h0 : 0 < bar) {ms : List M3} {k x : Nat} {e : Evt} (hk : k = 0 ↔ x = 0) (ht : 0 < tkE e) (hm : x + tkn e ≤ (x / bar + 1) * bar) (hb : e.bar = decide (0 < x ∧ x % bar = 0)) (h : MInv bar ms x) :
    MInv bar (mstep ms k e (tkE e)) (x + tkn e) := by
  have htn : ((tkn e : Nat) : Int) = tkE e := by unfold tkn; omega
  have htn0 : 0 < tkn e := by omega
  unfold mstep
  rcases h with ⟨rfl, rfl⟩ | ⟨pre, m, q, t, rfl, hp, hmt, ht0, htb, hx⟩
  · rw [if_pos (.inl (by omega)), bump_app]
    refine .inr ⟨[], _, 0, tkn e, rfl, by simp, by simp only; omega, htn0, ?_, by omega⟩
    simpa using hm
  · have hx0 : 0 < x := by omega
    rcases Nat.lt_or_ge t bar with htl | htg
    · have hmod : x % bar = t := by rw [hx, Nat.mul_comm, Nat.mul_add_mod, Nat.mod_eq_of_lt htl]
      have hdiv : x / bar = q := by rw [hx, Nat.mul_comm, Nat.mul_add_div h0, Nat.div_eq_of_lt htl, Nat.add_zero]
      rw [hdiv, Nat.add_mul, Nat.one_mul] at hm
      rw [if_neg (by rw [hb, decide_eq_true_eq]; omega), bump_app]
      exact .inr ⟨pre, _, q, t + tkn e, rfl, hp, by simp only; omega, by omega, by omega, by omega⟩
    · obtain rfl : t = bar := by omega
      have hmod : x % t = 0 := by rw [hx, Nat.mul_comm, Nat.mul_add_mod, Nat.mod_self]
      have hdiv : x / t = q + 1 := by
        have : x = t * (q + 1) := by rw [hx, Nat.mul_add, Nat.mul_one, Nat.mul_comm]
        rw [this, Nat.mul_div_cancel_left _ h0]
      have e1 : (q + 1 + 1) * t = q * t + t + t := by rw [Nat.add_mul, Nat.add_mul, Nat.one_mul]
      have e2 : (q + 1) * t = q * t + t := by rw [Nat.add_mul, Nat.one_mul]
      rw [hdiv, e1] at hm
      rw [if_pos (.inr (by rw [hb, decide_eq_true_eq]; omega)), bump_app]
      refine .inr ⟨pre ++ [m], _, q + 1, tkn e, rfl, ?_, by simp only; omega, by omega, by omega, by omega⟩
      intro y hy
      rcases List.mem_append.1 hy with hy | hy
      · exact hp y hy
      · obtain rfl := List.mem_singleton.1 hy
        exact hmt
theorem msr_bars {bar : Nat} (h0 : 0 < bar) : ∀ (l : List Evt) (ms : List M3) (k : Nat) (f : Int) (x : Nat), Bsd bar x l → (k = 0 ↔ x = 0) → MInv bar ms x → MInv bar (msr ms k f l) (x + sumE l)
  | [], _, _, _, _, _, _, h => h
  | e :: r, ms, k, f, x, ⟨⟨h1, h2, h3⟩, h4⟩, hk, h => by
    have htn0 : 0 < tkn e := by unfold tkn; omega
    have := msr_bars h0 r _ (k + 1) (frc f e) (x + tkn e) h4 (by omega) (minv_step h0 hk h1 h2 h3 h)
    rw [show x + tkn e + sumE r = x + sumE (e :: r) by simp only [sumE]; omega] at this
    rw [msr, frc_tk h1]
    rw [frc_tk h1] at this
    exact this
theorem minv_at {bar x : Nat} {ms : List M3} (h : MInv bar ms x) {i : Nat} (hi : i < ms.length) : ms[i].t ≤ (bar : Int) ∧ (i + 1 < ms.length → ms[i].t = (bar : Int)) := by
  rcases h with ⟨rfl, -⟩ | ⟨pre, m, q, t, rfl, hp, hmt, ht0, htb, hx⟩
  · simp at hi
  · simp only [List.length_append, List.length_singleton] at hi ⊢
    by_cases h : i < pre.length
    · rw [List.getElem_append_left h]
      have := hp _ (List.getElem_mem h)
      omega
    · obtain rfl : i = pre.length := by omega
      simp
      omega

/-! ### the onsets -/
def fxN (G : List (List Evt)) (j : Nat) : Nat := ((G.take j).flatten).length
theorem brkG_sum (F : List Nat) (i : Nat) (g : List Evt) : sumE (brkG F i g) = sumE g := by cases g <;> rfl
theorem parts_sum {bar : Nat} {e : Evt} {a b : Nat} : ∀ {x : Nat} {g : List Evt}, Parts bar e a b x g → x + sumE g = b
  | _, _, .done => rfl
  | x, _, .step hx ht hb hm hbar htie hst h => by
    have := parts_sum h
    simp only [sumE]
    omega
theorem holdB_plc (F : List Nat) (i : Nat) (s : Stp) : (holdB F i s).c = s.c ∧ (holdB F i s).f = s.f := by unfold holdB; split <;> exact ⟨rfl, rfl⟩
theorem grps_at {bar : Nat} {F : List Nat} : ∀ {a i : Nat} {l : List Evt} {G : List (List Evt)}, Grps bar a l G → (∀ e ∈ l, 0 < tkn e) → ∀ j, j ≤ l.length →
    sumE ((brkO F i G).take (fxN G j)) = sumE (l.take j) ∧ ∀ h : j < l.length, ∃ h2 : fxN G j < (brkO F i G).length, (brkO F i G)[fxN G j].stops.map (fun s => (s.c, s.f)) = l[j].stops.map (fun s => (s.c, s.f))
  | _, _, _, _, .nil, _, j, hj => by
    obtain rfl : j = 0 := by simpa using hj
    exact ⟨rfl, fun h => by simp at h⟩
  | a, i, e :: r, _, .cons (g := g) (G := G) hp hG, ht, 0, hj => by
    have hte := ht e (List.mem_cons_self ..)
    obtain ⟨f, tl, rfl, q1, q2, q3⟩ := parts_first (by omega) hp
    refine ⟨by simp [fxN, sumE], fun _ => ⟨by simp [fxN, brkO, brkG], ?_⟩⟩
    show ((f.stops.map (holdB F i)).map _) = e.stops.map _
    rw [q1, List.map_map]
    exact List.map_congr_left fun s _ => by simp only [Function.comp]; rw [(holdB_plc F i s).1, (holdB_plc F i s).2]
  | a, i, e :: r, _, .cons (g := g) (G := G) hp hG, ht, j + 1, hj => by
    obtain ⟨h1, h2⟩ := grps_at (F := F) (i := i + 1) hG (fun x hx => ht x (List.mem_cons_of_mem _ hx)) j (by simpa using hj)
    have hs := parts_sum hp
    have hfx : fxN (g :: G) (j + 1) = g.length + fxN G j := by simp [fxN]
    have hl : (brkG F i g).length = g.length := brkG_len _ _ _
    rw [hfx]
    refine ⟨?_, fun h => ?_⟩
    · show sumE ((brkG F i g ++ brkO F (i + 1) G).take _) = _
      rw [← hl, List.take_length_add_append, sumE_app, brkG_sum, h1, List.take_succ_cons]
      simp only [sumE]
      omega
    · obtain ⟨h3, h4⟩ := h2 (by simpa using h)
      refine ⟨by show _ < (brkG F i g ++ brkO F (i + 1) G).length; rw [List.length_append]; omega, ?_⟩
      have : (brkO F i (g :: G))[g.length + fxN G j]'(by show _ < (brkG F i g ++ brkO F (i + 1) G).length; rw [List.length_append]; omega) = (brkO F (i + 1) G)[fxN G j] := by
        show (brkG F i g ++ brkO F (i + 1) G)[_]'_ = _
        rw [List.getElem_append_right (by omega)]
        simp only [hl, Nat.add_sub_cancel_left]
      rw [this, h4]
      rfl
theorem tmN_lt {P : List Evt} (hP : ∀ e ∈ P, 0 < tkn e) : ∀ {j k : Nat}, j < k → k ≤ P.length → tmN P j < tmN P k
  | j, k + 1, h1, h2 => by
    have h3 := tmN_succ (P := P) (i := k) (by omega)
    have h4 := hP _ (List.getElem_mem (show k < P.length by omega))
    rcases Nat.lt_or_ge j k with h | h
    · have := tmN_lt hP h (by omega)
      omega
    · obtain rfl : j = k := by omega
      omega
/-- how the onsets of a broken piece stand to the old ones -/
structure Barred (P Q : List Evt) (fx : Nat → Nat) : Prop where
  tkP : ∀ e ∈ P, 0 < tkE e
  tkQ : ∀ e ∈ Q, 0 < tkE e
  fin : fx P.length = Q.length
  le : ∀ i, i ≤ P.length → fx i ≤ Q.length
  tm : ∀ i, i ≤ P.length → tmN Q (fx i) = tmN P i
  pl : ∀ i (h : i < P.length), ∃ h2 : fx i < Q.length, eqBy plB P[i].stops Q[fx i].stops = true
theorem Barred.mono {P Q : List Evt} {fx : Nat → Nat} (h : Barred P Q fx) {i : Nat} (hi : i + 1 ≤ P.length) : fx i ≤ fx (i + 1) := by
  rcases Nat.lt_or_ge (fx (i + 1)) (fx i) with h1 | h1
  · have h2 := tmN_lt (fun e he => by have := h.tkQ e he; unfold tkn; omega) h1 (h.le i (by omega))
    have h3 := tmN_lt (P := P) (fun e he => by have := h.tkP e he; unfold tkn; omega) (show i < i + 1 by omega) hi
    rw [h.tm _ (by omega), h.tm _ (by omega)] at h2
    omega
  · exact h1
theorem brk_barred {p q : Pc} {bar : Int} (h : brkP p bar = .ok q) : (∃ fx, Barred (outE plnS sz p.evs) q.evs fx) ∧ 0 < bar ∧ bar ≤ 4608 ∧ ∀ i (h : i < (measures q).length), (measures q)[i].t ≤ bar ∧ (i + 1 < (measures q).length → (measures q)[i].t = bar) := by
  obtain ⟨hc, hb1, hb2, G, hG, hl, hbad, rfl⟩ := brk_ok h
  have htk := pln_tk hc
  have htn : ∀ e ∈ outE plnS sz p.evs, 0 < tkn e := fun e he => by have := htk e he; unfold tkn; omega
  have hg := brkL_grps (by omega) htk hG
  have hbs : Bsd bar.toNat 0 (brkO (fstL 0 G) 0 G) := bsd_brkO hg
  have hgl := grps_len hg
  have hlen : fxN G (outE plnS sz p.evs).length = (brkO (fstL 0 G) 0 G).length := by
    rw [brkO_len, ← hgl]
    unfold fxN
    rw [List.take_length]
  refine ⟨⟨fxN G, htk, bsd_tk hbs, hlen, fun i hi => ?_, fun i hi => (grps_at (F := fstL 0 G) (i := 0) hg htn i hi).1, fun i hi => ?_⟩, by omega, hb2, fun i hi => ?_⟩
  · show _ ≤ (brkO (fstL 0 G) 0 G).length
    rw [brkO_len]
    unfold fxN
    have h1 := congrArg (fun l : List (List Evt) => l.flatten.length) (List.take_append_drop i G)
    simp only [List.flatten_append, List.length_append] at h1
    omega
  · obtain ⟨h2, h3⟩ := (grps_at (F := fstL 0 G) (i := 0) hg htn i (by omega)).2 hi
    exact ⟨h2, eqBy_plc h3.symm⟩
  · have := minv_at (msr_bars (bar := bar.toNat) (by omega) _ [] 0 0 0 hbs (by simp) (.inl ⟨rfl, rfl⟩)) hi
    have hbb : ((bar.toNat : Nat) : Int) = bar := by omega
    rw [hbb] at this
    exact this
end Go.Ab.V

/-
  The law PieceBars. No condition.
-/
namespace Go.Ab.V
open Go.Proofs

theorem ons_times {q : Pc} (h : ∀ e ∈ q.evs, right e.v e.d e.t = true) : onsets q = times q := by
  unfold onsets times
  rw [tms_ons q.evs ⟨0, false, false⟩ 0 0 h rfl]
theorem ons_tm {p : Pc} (hc : chk p = 0) : onsets p = times ⟨p.ins, outE plnS sz p.evs⟩ := by
  rw [← pln_ons hc]
  exact ons_times (q := ⟨p.ins, outE plnS sz p.evs⟩) (pln_right hc)
theorem brkP_ne {p : Pc} {b e : Int} (h : brkP p b = .error e) : e ≠ 0 := by
  unfold brkP at h
  split at h
  · rename_i hc; cases h; exact hc
  · split at h
    · cases h; decide
    · unfold brkQ at h
      split at h
      · cases h; decide
      · split at h
        · cases h; decide
        · unfold brkT at h
          split at h
          · cases h; decide
          · cases h
def A16 : Ann := fun r => match r with
  | 0 => { slots := [(0, 0)] }
  | 3 => { slots := [(7, 1)] }
  | _ => {}

set_option maxHeartbeats 16000000 in
set_option maxRecDepth 100000 in
theorem law_bars_in (p q : Pc) (b : Int) (hp : p.Ok) (h0 : longB p = false) (hc : chk p = 0) (hX : brkP p b = .ok q) : ACalls C.P 16 [pcA p, .int .i64 b] Heap.nil fun r _ => r = .bool true := by
  have b1 := long_spec p hp
  rw [h0] at b1
  have g2 : bigB p = false := by unfold longB at h0; rw [Bool.or_eq_false_iff] at h0; exact h0.1
  have hs := Pc.Sm.of_big g2
  have c1 := copy_spec p hs
  have k0 := refCheck_spec p hp hs.ev
  rw [hc] at k0
  have a1 := break_spec p hp hs b
  rw [hX] at a1
  have hqs := brk_sm hs hX
  have hqc := brk_chk hX
  have hqo : q.Ok := ⟨by have := hqs.cs; omega, by have := hqs.st; omega, by have := hqs.ev; omega, fun e he => by have := hqs.sp e he; omega⟩
  have m1 := measures_spec q hqo
  unfold msrV at m1
  rw [if_pos hqc] at m1
  have o1 := onsets_spec p hp
  have o2 := onsets_spec q hqo
  unfold onsV at o1 o2
  rw [if_pos hc] at o1
  rw [if_pos hqc] at o2
  obtain ⟨⟨fx, hB⟩, hb0, hb1, hM⟩ := brk_barred hX
  obtain ⟨P, hP⟩ : ∃ P, P = outE plnS sz p.evs := ⟨_, rfl⟩
  rw [← hP] at hB
  have hPl : P.length = p.evs.length := by rw [hP, outE_len]
  obtain ⟨was, hwas⟩ : ∃ w, w = onsets p := ⟨_, rfl⟩
  obtain ⟨now, hnow⟩ : ∃ w, w = onsets q := ⟨_, rfl⟩
  obtain ⟨ms, hms⟩ : ∃ m, m = measures q := ⟨_, rfl⟩
  have hwl : was.length = p.evs.length + 1 := by rw [hwas, ons_len]
  have hnl : now.length = q.evs.length + 1 := by rw [hnow, ons_len]
  have hml : ms.length ≤ q.evs.length := by rw [hms]; exact measures_len q
  have hw : ∀ i, i ≤ p.evs.length → (ints was)[0 + ((i : Nat) : Int).toNat]? = some [.int .i64 (tmN P i : Nat)] := by
    intro i hi
    rw [hwas, ons_tm hc, ← hP]
    exact times_at hB.tkP (by omega)
  have hn : ∀ i, i ≤ q.evs.length → (ints now)[0 + ((i : Nat) : Int).toNat]? = some [.int .i64 (tmN q.evs i : Nat)] := by
    intro i hi
    rw [hnow, ons_times (chk_right hqc)]
    exact times_at (i := q.ins) hB.tkQ hi
  rw [← hwas] at o1
  rw [← hnow] at o2
  rw [← hms] at m1 hM
  have hpe := hs.ev
  have hqe := hqs.ev
  refine fn_of ok mixed (A := A16) 2 Try.func16 rfl ?_
  (repeat' (first | exact rfl | ((conv => whnf); first | refine ⟨_, b1, ?_⟩ | refine ⟨_, k0, ?_⟩ | refine ⟨_, c1, ?_⟩ | refine ⟨_, a1, ?_⟩ | refine ⟨_, m1, ?_⟩ | exact rfl | refine ⟨by kernel_rfl, ?_⟩ | exact ⟨rfl, rfl⟩ | refine ⟨rfl, ?_⟩ | refine ⟨by (first | omega | (simp (disch := omega) only [wrapI]; omega) | (simp (disch := omega) only [wrapI]; simp; omega) | (simp; omega)), ?_⟩ | (intro ep) | (refine ifB (fun hb => ?_) (fun hb => ?_) <;> (try (exfalso; revert hb; simp only [decide_eq_true_eq, decide_eq_false_iff_not]; omega))) | fail)))
  rename_i ep0
  obtain ⟨ep1, he1⟩ : ∃ e, e = ep := ⟨_, rfl⟩
  subst he1
  (conv => whnf)
  refine loopM ok mixed (A := A16) [1, 2, 5, 7, 9] [0, 1] (S := { k : Nat // k ≤ ms.length })
    (fr := fun s => frOf 0 181 [(1, .int .i64 b), (2, .optr (.s 0) ep0 3 0 0), (5, .optr (.s 1) ep1 3 0 0), (7, m3A ms), (9, .int .i64 (s.1 : Int))])
    (h := fun s => ⟨[.vec ep0 [[crsA p.ins.cs, intsA p.ins.steps, evsA p.evs]], .vec ep1 [[crsA q.ins.cs, intsA q.ins.steps, evsA q.evs]]], []⟩) (μ := fun s => ms.length - s.1) ⟨0, by omega⟩ (by exact rfl) (by exact rfl) ?_
  rintro ⟨k, hk⟩
  show aexR _ _ _ (frOf 0 181 [(1, .int .i64 b), (2, .optr (.s 0) ep0 3 0 0), (5, .optr (.s 1) ep1 3 0 0), (7, m3A ms), (9, .int .i64 (k : Int))]) ⟨[.vec ep0 [[crsA p.ins.cs, intsA p.ins.steps, evsA p.evs]], .vec ep1 [[crsA q.ins.cs, intsA q.ins.steps, evsA q.evs]]], []⟩ _
  (repeat' (first | exact rfl | ((conv => whnf); first | exact rfl | refine ⟨by kernel_rfl, ?_⟩ | exact ⟨rfl, rfl⟩ | refine ⟨rfl, ?_⟩ | refine ⟨by (first | omega | (simp (disch := omega) only [wrapI]; omega) | (simp (disch := omega) only [wrapI]; simp; omega) | (simp; omega)), ?_⟩ | (intro ep) | fail)))
  (conv => whnf)
  refine ifB (fun g3 => ?_) (fun g3 => ?_)
  · simp only [decide_eq_true_eq] at g3
    have hlt : k < ms.length := by omega
    obtain ⟨h1, h2⟩ := hM k hlt
    have hm : (ms.map m3R)[0 + ((k : Nat) : Int).toNat]? = some (m3R ms[k]) := by
      rw [Nat.zero_add, Int.toNat_natCast, List.getElem?_map, List.getElem?_eq_getElem hlt]; rfl
    have hwr : IntKind.i64.wrap ((k : Int) + 1) = (k : Int) + 1 := IntWalk.i64_in _ (by omega)
    (repeat' (first | exact rfl | ((conv => whnf); first | refine optS hm ?_ | exact rfl | refine ⟨by kernel_rfl, ?_⟩ | exact ⟨rfl, rfl⟩ | refine ⟨rfl, ?_⟩ | refine ⟨by (first | omega | (simp (disch := omega) only [wrapI]; omega) | (simp (disch := omega) only [wrapI]; simp; omega) | (simp; omega)), ?_⟩ | (intro ep) | (refine ifB (fun hb => ?_) (fun hb => ?_) <;> (simp only [hwr, decide_eq_true_eq, decide_eq_false_iff_not, bne_iff_ne, bne_eq_false_iff_eq, ne_eq] at hb) <;> (try (exfalso; omega))) | refine back_of ⟨k + 1, by omega⟩ ⟨by (first | exact rfl | (simp (disch := omega) only [wrapI]; exact rfl)), rfl, by simp only; omega⟩ | fail)))
  · simp only [decide_eq_false_iff_not] at g3
    have hiw : IntKind.i64.wrap ((was.length : Int) - 1) = (p.evs.length : Int) := by rw [IntWalk.i64_in _ (by omega)]; omega
    have hin : IntKind.i64.wrap ((now.length : Int) - 1) = (q.evs.length : Int) := by rw [IntWalk.i64_in _ (by omega)]; omega
    have hA : 0 ≤ IntKind.i64.wrap ((was.length : Int) - 1) ∧ IntKind.i64.wrap ((was.length : Int) - 1) < (was.length : Int) := by rw [hiw]; omega
    have hC : 0 ≤ IntKind.i64.wrap ((now.length : Int) - 1) ∧ IntKind.i64.wrap ((now.length : Int) - 1) < (now.length : Int) := by rw [hin]; omega
    have w1 := hw p.evs.length (Nat.le_refl _)
    have w2 := hn q.evs.length (Nat.le_refl _)
    have hfin := hB.tm P.length (Nat.le_refl _)
    rw [hB.fin, hPl] at hfin
    rw [hfin] at w2
    rw [← hiw] at w1
    rw [← hin] at w2
    (repeat' (first | exact rfl | ((conv => whnf); first | refine ⟨_, c1, ?_⟩ | refine ⟨_, o1, ?_⟩ | refine ⟨_, o2, ?_⟩ | refine optS w1 ?_ | refine optS w2 ?_ | refine ⟨hA, ?_⟩ | refine ⟨hC, ?_⟩ | exact rfl | refine ⟨by kernel_rfl, ?_⟩ | exact ⟨rfl, rfl⟩ | refine ⟨rfl, ?_⟩ | refine ⟨by (first | omega | (simp (disch := omega) only [wrapI]; omega) | (simp (disch := omega) only [wrapI]; simp; omega) | (simp; omega)), ?_⟩ | (intro ep) | (refine ifB (fun hb => ?_) (fun hb => ?_) <;> (simp only [decide_eq_true_eq, decide_eq_false_iff_not, bne_iff_ne, bne_eq_false_iff_eq, ne_eq] at hb) <;> (try (exfalso; omega)) <;> (try (exact absurd trivial hb))) | fail)))
    (conv => whnf)
    refine loopM ok mixed (A := A16) [2, 5, 10, 12, 14, 15] [0, 1] (S := { s : Nat × Nat // s.1 ≤ p.evs.length + 1 ∧ s.2 ≤ q.evs.length ∧ (s.1 ≤ p.evs.length → s.2 ≤ fx s.1) })
      (fr := fun s => frOf 0 181 [(2, .optr (.s 0) ep0 3 0 0), (5, .optr (.s 1) ep1 3 0 0), (10, intsA was), (12, intsA now), (14, .int .i64 (s.1.2 : Int)), (15, .int .i64 (s.1.1 : Int))])
      (h := fun s => ⟨[.vec ep0 [[crsA p.ins.cs, intsA p.ins.steps, evsA p.evs]], .vec ep1 [[crsA q.ins.cs, intsA q.ins.steps, evsA q.evs]]], []⟩) (μ := fun s => p.evs.length + 1 - s.1.1) ⟨(0, 0), by simp⟩ (by exact rfl) (by exact rfl) ?_
    rintro ⟨⟨i, a⟩, hi, ha, hai⟩
    simp only at hi ha hai
    show aexR _ _ _ (frOf 0 181 [(2, .optr (.s 0) ep0 3 0 0), (5, .optr (.s 1) ep1 3 0 0), (10, intsA was), (12, intsA now), (14, .int .i64 (a : Int)), (15, .int .i64 (i : Int))]) ⟨[.vec ep0 [[crsA p.ins.cs, intsA p.ins.steps, evsA p.evs]], .vec ep1 [[crsA q.ins.cs, intsA q.ins.steps, evsA q.evs]]], []⟩ _
    (repeat' (first | exact rfl | ((conv => whnf); first | exact rfl | refine ⟨by kernel_rfl, ?_⟩ | exact ⟨rfl, rfl⟩ | refine ⟨rfl, ?_⟩ | refine ⟨by (first | omega | (simp (disch := omega) only [wrapI]; omega) | (simp (disch := omega) only [wrapI]; simp; omega) | (simp; omega)), ?_⟩ | (intro ep) | fail)))
    (conv => whnf)
    refine ifB (fun g4 => ?_) (fun g4 => ?_)
    · simp only [decide_eq_true_eq] at g4
      have hin' : i ≤ p.evs.length := by omega
      have hfle := hB.le i (by omega)
      have w3 := hw i hin'
      (repeat' (first | exact rfl | ((conv => whnf); first | exact rfl | refine ⟨by kernel_rfl, ?_⟩ | exact ⟨rfl, rfl⟩ | refine ⟨rfl, ?_⟩ | refine ⟨by (first | omega | (simp (disch := omega) only [wrapI]; omega) | (simp (disch := omega) only [wrapI]; simp; omega) | (simp; omega)), ?_⟩ | (intro ep) | fail)))
      (conv => whnf)
      refine loopM ok mixed (A := A16) [2, 5, 10, 12, 14, 15] [0, 1] (S := { s : Nat // s ≤ fx i })
        (fr := fun s => frOf 0 181 [(2, .optr (.s 0) ep0 3 0 0), (5, .optr (.s 1) ep1 3 0 0), (10, intsA was), (12, intsA now), (14, .int .i64 (s.1 : Int)), (15, .int .i64 (i : Int))])
        (h := fun s => ⟨[.vec ep0 [[crsA p.ins.cs, intsA p.ins.steps, evsA p.evs]], .vec ep1 [[crsA q.ins.cs, intsA q.ins.steps, evsA q.evs]]], []⟩) (μ := fun s => fx i - s.1) ⟨a, hai hin'⟩ (by exact rfl) (by exact rfl) ?_
      rintro ⟨c, hcx⟩
      show aexR _ _ _ (frOf 0 181 [(2, .optr (.s 0) ep0 3 0 0), (5, .optr (.s 1) ep1 3 0 0), (10, intsA was), (12, intsA now), (14, .int .i64 (c : Int)), (15, .int .i64 (i : Int))]) ⟨[.vec ep0 [[crsA p.ins.cs, intsA p.ins.steps, evsA p.evs]], .vec ep1 [[crsA q.ins.cs, intsA q.ins.steps, evsA q.evs]]], []⟩ _
      have w4 := hn c (by omega)
      have hti := hB.tm i (by omega)
      rcases Nat.lt_or_ge c (fx i) with hcl | hcl
      · have hlt := tmN_lt (P := q.evs) (fun e he => by have := hB.tkQ e he; unfold tkn; omega) hcl hfle
        rw [hti] at hlt
        (repeat' (first | exact rfl | ((conv => whnf); first | refine optS w3 ?_ | refine optS w4 ?_ | exact rfl | refine ⟨by kernel_rfl, ?_⟩ | exact ⟨rfl, rfl⟩ | refine ⟨rfl, ?_⟩ | refine ⟨by (first | omega | (simp (disch := omega) only [wrapI]; omega) | (simp (disch := omega) only [wrapI]; simp; omega) | (simp; omega)), ?_⟩ | (intro ep) | (refine ifB (fun hb => ?_) (fun hb => ?_) <;> (simp only [decide_eq_true_eq, decide_eq_false_iff_not, bne_iff_ne, bne_eq_false_iff_eq, ne_eq] at hb) <;> (try (exfalso; omega))) | refine back_of ⟨c + 1, by omega⟩ ⟨by (first | exact rfl | (simp (disch := omega) only [wrapI]; exact rfl)), rfl, by simp only; omega⟩ | fail)))
      · obtain rfl : c = fx i := by omega
        rw [hti] at w4
        by_cases hie : i < p.evs.length
        · obtain ⟨hfl, hpl⟩ := hB.pl i (by omega)
          have hst : (P[i]'(by omega)).stops = p.evs[i].stops := by
            have := congrArg (fun l => l[i]?) (pln_body p.evs)
            rw [← hP] at this
            simp only [List.getElem?_map, List.getElem?_eq_getElem hie, List.getElem?_eq_getElem (show i < P.length by omega), Option.map_some, Option.some.injEq, body, Prod.mk.injEq] at this
            exact this.2
          rw [hst] at hpl
          have hF := samePlaces_spec p.evs[i] q.evs[fx i] (hs.two.sp _ (List.getElem_mem hie))
          rw [hpl] at hF
          have hmono := hB.mono (i := i) (by omega)
          (repeat' (first | exact rfl | ((conv => whnf); first | refine ⟨_, hF, ?_⟩ | refine optS (mapR hie) ?_ | refine optS (mapR hfl) ?_ | refine optS w3 ?_ | refine optS w4 ?_ | exact rfl | refine ⟨by kernel_rfl, ?_⟩ | exact ⟨rfl, rfl⟩ | refine ⟨rfl, ?_⟩ | refine ⟨by (first | omega | (simp (disch := omega) only [wrapI]; omega) | (simp (disch := omega) only [wrapI]; simp; omega) | (simp; omega)), ?_⟩ | (intro ep) | (refine ifB (fun hb => ?_) (fun hb => ?_) <;> (simp only [decide_eq_true_eq, decide_eq_false_iff_not, bne_iff_ne, bne_eq_false_iff_eq, beq_iff_eq, beq_eq_false_iff_ne, ne_eq] at hb) <;> (try (exfalso; omega)) <;> (try (exact absurd trivial hb))) | refine back_of ⟨(i + 1, fx i), by omega, by omega, fun _ => hmono⟩ ⟨by (first | exact rfl | (simp (disch := omega) only [wrapI]; exact rfl)), rfl, by simp only; omega⟩ | fail)))
        · (repeat' (first | exact rfl | ((conv => whnf); first | refine optS w3 ?_ | refine optS w4 ?_ | exact rfl | refine ⟨by kernel_rfl, ?_⟩ | exact ⟨rfl, rfl⟩ | refine ⟨rfl, ?_⟩ | refine ⟨by (first | omega | (simp (disch := omega) only [wrapI]; omega) | (simp (disch := omega) only [wrapI]; simp; omega) | (simp; omega)), ?_⟩ | (intro ep) | (refine ifB (fun hb => ?_) (fun hb => ?_) <;> (simp only [decide_eq_true_eq, decide_eq_false_iff_not, bne_iff_ne, bne_eq_false_iff_eq, beq_iff_eq, beq_eq_false_iff_ne, ne_eq] at hb) <;> (try (exfalso; omega)) <;> (try (exact absurd trivial hb))) | refine back_of ⟨(i + 1, fx i), by omega, by omega, fun h => by omega⟩ ⟨by (first | exact rfl | (simp (disch := omega) only [wrapI]; exact rfl)), rfl, by simp only; omega⟩ | fail)))
    · (repeat' (first | exact rfl | ((conv => whnf); first | refine ⟨_, works_spec, ?_⟩ | exact rfl | refine ⟨by kernel_rfl, ?_⟩ | exact ⟨rfl, rfl⟩ | refine ⟨rfl, ?_⟩ | refine ⟨by (first | omega | (simp (disch := omega) only [wrapI]; omega) | (simp (disch := omega) only [wrapI]; simp; omega) | (simp; omega)), ?_⟩ | (intro ep) | fail)))
theorem law_bars (p : Pc) (b : Int) (hp : p.Ok) : ACalls C.P 16 [pcA p, .int .i64 b] Heap.nil fun r _ => r = .bool true := by
  have b1 := long_spec p hp
  cases h0 : longB p
  · by_cases hc : chk p = 0
    · cases hX : brkP p b with
      | error e0 =>
        rw [h0] at b1
        have g2 : bigB p = false := by unfold longB at h0; rw [Bool.or_eq_false_iff] at h0; exact h0.1
        have hs := Pc.Sm.of_big g2
        have c1 := copy_spec p hs
        have k0 := refCheck_spec p hp hs.ev
        rw [hc] at k0
        have a1 := break_spec p hp hs b
        rw [hX] at a1
        have hne : e0 ≠ 0 := brkP_ne hX
        refine fn_of ok mixed (A := A16) 2 Try.func16 rfl ?_
        (repeat' (first | exact rfl | ((conv => whnf); first | refine ⟨_, b1, ?_⟩ | refine ⟨_, k0, ?_⟩ | refine ⟨_, c1, ?_⟩ | refine ⟨_, a1, ?_⟩ | refine ⟨_, works_spec, ?_⟩ | exact rfl | refine ⟨by kernel_rfl, ?_⟩ | exact ⟨rfl, rfl⟩ | refine ⟨rfl, ?_⟩ | refine ⟨by (first | omega | (simp (disch := omega) only [wrapI]; omega) | (simp (disch := omega) only [wrapI]; simp; omega) | (simp; omega)), ?_⟩ | (intro ep) | (refine ifB (fun hb => ?_) (fun hb => ?_) <;> (try simp only [decide_eq_true_eq, decide_eq_false_iff_not, beq_iff_eq, beq_eq_false_iff_ne, bne_iff_ne, bne_eq_false_iff_eq, ne_eq, not_false_eq_true, not_true_eq_false, Bool.not_eq_true, Bool.not_eq_true', Bool.not_eq_false', Int.not_lt, Int.not_le] at hb) <;> (try simp (disch := omega) only [wrapI] at hb) <;> (try (exfalso; omega))) | fail)))
      | ok q => exact law_bars_in p q b hp h0 hc hX
    · rw [h0] at b1
      have g2 : bigB p = false := by unfold longB at h0; rw [Bool.or_eq_false_iff] at h0; exact h0.1
      have hs := Pc.Sm.of_big g2
      have k0 := refCheck_spec p hp hs.ev
      refine fn_of ok mixed (A := A16) 2 Try.func16 rfl ?_
      (repeat' (first | exact rfl | ((conv => whnf); first | refine ⟨_, b1, ?_⟩ | refine ⟨_, k0, ?_⟩ | refine ⟨_, works_spec, ?_⟩ | exact rfl | refine ⟨by kernel_rfl, ?_⟩ | exact ⟨rfl, rfl⟩ | refine ⟨rfl, ?_⟩ | refine ⟨by (first | omega | (simp (disch := omega) only [wrapI]; omega) | (simp (disch := omega) only [wrapI]; simp; omega) | (simp; omega)), ?_⟩ | (intro ep) | (refine ifB (fun hb => ?_) (fun hb => ?_) <;> (try simp only [decide_eq_true_eq, decide_eq_false_iff_not, beq_iff_eq, beq_eq_false_iff_ne, bne_iff_ne, bne_eq_false_iff_eq, ne_eq, not_false_eq_true, not_true_eq_false, Bool.not_eq_true, Bool.not_eq_true', Bool.not_eq_false', Int.not_lt, Int.not_le] at hb) <;> (try simp (disch := omega) only [wrapI] at hb) <;> (try (exfalso; omega))) | fail)))
  · rw [h0] at b1
    refine fn_of ok mixed (A := A16) 2 Try.func16 rfl ?_
    (repeat' (first | exact rfl | ((conv => whnf); first | refine ⟨_, b1, ?_⟩ | refine ⟨_, works_spec, ?_⟩ | exact rfl | refine ⟨by kernel_rfl, ?_⟩ | exact ⟨rfl, rfl⟩ | refine ⟨rfl, ?_⟩ | refine ⟨by (first | omega | (simp (disch := omega) only [wrapI]; omega) | (simp (disch := omega) only [wrapI]; simp; omega) | (simp; omega)), ?_⟩ | (intro ep) | (refine ifB (fun hb => ?_) (fun hb => ?_) <;> (try simp only [decide_eq_true_eq, decide_eq_false_iff_not, beq_iff_eq, beq_eq_false_iff_ne, bne_iff_ne, bne_eq_false_iff_eq, ne_eq, not_false_eq_true, not_true_eq_false, Bool.not_eq_true, Bool.not_eq_true', Bool.not_eq_false', Int.not_lt, Int.not_le] at hb) <;> (try simp (disch := omega) only [wrapI] at hb) <;> (try (exfalso; omega))) | fail)))
end Go.Ab.V
