/-
  What is proved here serves the law's text: each part says its own claim and its conditions. No condition is left open.
-/
import Derived.Test.YtgnhnapnjmbieaaKO
import Derived.Test.YtgnhnapnjmbieaaKN
import Derived.Test.YtgnhnapnjmbieaaKM
set_option linter.unusedSimpArgs false
set_option linter.unusedVariables false

/-
  What Break makes of an event, part by part. Plain Lean. No condition.
-/
namespace Go.Ab.V
open Go.Proofs

/-- the parts of an event that lasts from a to b, from x on -/
inductive Parts (bar : Nat) (e : Evt) (a b : Nat) : Nat → List Evt → Prop
  | done : Parts bar e a b b []
  | step {x : Nat} {f : Evt} {g : List Evt} (hx : x < b) (ht : 0 < tkE f) (hb : x + tkn f ≤ b) (hm : x + tkn f ≤ (x / bar + 1) * bar) (hbar : f.bar = decide (0 < x ∧ x % bar = 0))
      (htie : f.tie = if x = a then e.tie else !restE e) (hst : f.stops = if x = a then e.stops else []) (h : Parts bar e a b (x + tkn f) g) : Parts bar e a b x (f :: g)

theorem parts_seg {bar : Nat} {e : Evt} {a b x y : Nat} (h0 : 0 < bar) (hax : a ≤ x) (hyb : y ≤ b) (hym : y ≤ (x / bar + 1) * bar) {g : List Evt} (hg : Parts bar e a b y g) :
    ∀ (l : List Sgn) (k t : Nat), (∀ s ∈ l, 0 < s.tk) → t + sumT l = y → x ≤ t → (k = 0 ↔ t = x) → Parts bar e a b t (l.mapIdx (fun j s => evP bar e a x (k + j) s) ++ g)
  | [], k, t, _, hs, _, _ => by
    simp only [sumT, Nat.add_zero] at hs
    subst hs
    exact hg
  | s :: l, k, t, hp, hs, hxt, hk => by
    have hp0 := hp s (List.mem_cons_self ..)
    simp only [sumT] at hs
    have ih := parts_seg h0 hax hyb hym hg l (k + 1) (t + s.tk.toNat) (fun z hz => hp z (List.mem_cons_of_mem _ hz)) (by omega) (by omega) (by omega)
    rw [List.mapIdx_cons, List.cons_append]
    have htk : tkE (evP bar e a x (k + 0) s) = s.tk := rfl
    have htn : tkn (evP bar e a x (k + 0) s) = s.tk.toNat := rfl
    have hq : t / bar = x / bar ∨ t = y := by
      rcases Nat.lt_or_ge t y with h | h
      · left
        have e2 := Nat.div_add_mod x bar
        have e3 := Nat.mod_lt x h0
        apply Nat.le_antisymm
        · have : t < (x / bar + 1) * bar := by omega
          rw [Nat.mul_comm] at this
          exact Nat.lt_succ_iff.1 (Nat.div_lt_of_lt_mul this)
        · exact Nat.div_le_div_right hxt
      · exact .inr (by omega)
    refine .step (by omega) (by rw [htk]; exact hp0) (by rw [htn]; omega) ?_ ?_ ?_ ?_ ?_
    · rw [htn]
      rcases hq with h | h
      · rw [h]; omega
      · omega
    · show decide (k + 0 = 0 ∧ 0 < x ∧ x % bar = 0) = _
      rw [decide_eq_decide, Nat.add_zero]
      by_cases hk0 : k = 0
      · have := hk.1 hk0
        subst this
        simp [hk0]
      · have htx : x < t := by
          rcases Nat.lt_or_ge x t with h | h
          · exact h
          · exact absurd (hk.2 (by omega)) hk0
        constructor
        · intro h; exact absurd h.1 hk0
        · rintro ⟨h1, h2⟩
          rcases Nat.lt_or_ge t y with h | h
          · exact absurd h2 (mod_in h0 htx h hym)
          · omega
    · show (if x = a ∧ k + 0 = 0 then e.tie else !restE e) = _
      by_cases hk0 : k = 0
      · have := hk.1 hk0
        subst this
        simp [hk0]
      · have htx : x < t := by
          rcases Nat.lt_or_ge x t with h | h
          · exact h
          · exact absurd (hk.2 (by omega)) hk0
        rw [if_neg (by omega), if_neg (by omega)]
    · show (if x = a ∧ k + 0 = 0 then e.stops else []) = _
      by_cases hk0 : k = 0
      · have := hk.1 hk0
        subst this
        simp [hk0]
      · have htx : x < t := by
          rcases Nat.lt_or_ge x t with h | h
          · exact h
          · exact absurd (hk.2 (by omega)) hk0
        rw [if_neg (by omega), if_neg (by omega)]
    · rw [htn]
      have e1 : (fun (j : Nat) (s : Sgn) => evP bar e a x (k + (j + 1)) s) = fun j s => evP bar e a x (k + 1 + j) s := by
        funext j s
        rw [show k + (j + 1) = k + 1 + j by omega]
      rw [e1]
      exact ih
theorem brkF_parts {bar : Nat} {e : Evt} {a b : Nat} (h0 : 0 < bar) (hab : b = a + tkn e) (ht : 0 < tkE e) : ∀ (n x : Nat) (g : List Evt), b - x ≤ n → a ≤ x → x ≤ b → brkF bar e a b x = some g → Parts bar e a b x g
  | n, x, g, hn, hax, hxb, h => by
    by_cases hx : x < b
    · cases hs : segS e.sg a b x (nxtB bar x b) with
      | none => rw [brkF_none hx hs] at h; cases h
      | some l =>
        rw [brkF_some h0 hx hs, Option.map_eq_some_iff] at h
        obtain ⟨g', h1, rfl⟩ := h
        have h2 := nxtB_gt h0 hx
        obtain ⟨s1, s2⟩ := segS_sum hs h2.1 hab ht
        match n, hn with
        | 0, hn => omega
        | n + 1, hn =>
          have ih := brkF_parts h0 hab ht n _ g' (by omega) (by omega) h2.2.1 h1
          have := parts_seg (x := x) h0 hax h2.2.1 h2.2.2 ih l 0 x s2 (by omega) (Nat.le_refl _) (by simp)
          simp only [Nat.zero_add] at this
          exact this
    · rw [brkF_end (by omega)] at h
      cases h
      obtain rfl : x = b := by omega
      exact .done
theorem brkE_parts {bar : Nat} {e : Evt} {a : Nat} {g : List Evt} (h0 : 0 < bar) (ht : 0 < tkE e) (h : brkE bar e a = some g) : Parts bar e a (a + tkn e) a g :=
  brkF_parts h0 rfl ht _ _ _ (Nat.le_refl _) (Nat.le_refl _) (by omega) h

end Go.Ab.V

/-
  A broken piece is valid. Plain Lean. No condition.
-/
namespace Go.Ab.V
open Go.Proofs

/-! ### validity, event by event from the end on -/
structure EvOk (i : Ins) (e : Evt) (r : List Evt) : Prop where
  rt : right e.v e.d e.t = true
  ti : ¬ (e.tie = true ∧ 0 < e.stops.length)
  st : StpsOk i (fun c => (longL c 15 r : Nat)) 0 e.stops
def SufOk (i : Ins) : List Evt → Prop
  | [] => True
  | e :: r => EvOk i e r ∧ SufOk i r
theorem SufOk.at {i : Ins} : ∀ {l : List Evt} {j : Nat}, SufOk i l → ∀ h : j < l.length, EvOk i l[j] (l.drop (j + 1))
  | e :: r, 0, h, _ => by simpa using h.1
  | e :: r, j + 1, h, hj => by simpa using SufOk.at (l := r) (j := j) h.2 (by simpa using hj)
theorem SufOk.of {i : Ins} : ∀ {l : List Evt}, (∀ j (h : j < l.length), EvOk i l[j] (l.drop (j + 1))) → SufOk i l
  | [], _ => trivial
  | e :: r, h => ⟨h 0 (by simp), SufOk.of fun j hj => h (j + 1) (by simpa using hj)⟩
theorem stps_eq {i : Ins} {lg lg' : Int → Int} (h : ∀ c, lg c = lg' c) {l : List Stp} {last : Int} : StpsOk i lg last l ↔ StpsOk i lg' last l := by
  rw [show lg = lg' from funext h]
theorem chk_suf {p : Pc} : chk p = 0 ↔ chkIn p.ins = 0 ∧ p.evs.length ≤ 400 ∧ SufOk p.ins p.evs ∧ ∀ h : 0 < p.evs.length, p.evs[0].v ≠ 0 ∧ p.evs[0].tie = false := by
  rw [chk_iff]
  constructor
  · rintro ⟨h1, h2, h3⟩
    refine ⟨h1, h2, SufOk.of fun j hj => ?_, fun h => ?_⟩
    · obtain ⟨q1, q2, q3, q4⟩ := chkEv_iff.1 (h3 j hj)
      exact ⟨q1, fun x => q3 ⟨x.1, .inr x.2⟩, (stps_eq fun c => longest_at hj c).1 q4⟩
    · obtain ⟨q1, q2, q3, q4⟩ := chkEv_iff.1 (h3 0 h)
      refine ⟨fun x => q2 ⟨rfl, x⟩, ?_⟩
      cases ht : (p.evs[0]).tie with
      | true => exact absurd ⟨ht, .inl rfl⟩ q3
      | false => rfl
  · rintro ⟨h1, h2, h3, h4⟩
    refine ⟨h1, h2, fun j hj => chkEv_iff.2 ?_⟩
    obtain ⟨q1, q2, q3⟩ := h3.at hj
    refine ⟨q1, ?_, ?_, (stps_eq fun c => longest_at hj c).2 q3⟩
    · rintro ⟨x, y⟩
      have hj0 : j = 0 := by omega
      subst hj0
      exact (h4 hj).1 y
    · rintro ⟨x, y⟩
      rcases y with y | y
      · have hj0 : j = 0 := by omega
        subst hj0
        have := (h4 hj).2
        rw [this] at x
        cases x
      · exact q2 ⟨x, y⟩

/-! ### what a hold passes -/
def okC (c : Int) (e : Evt) : Prop := restE e = false ∧ hasC e.stops c = false
theorem longL_ge {c : Int} : ∀ {k n : Nat} {l : List Evt}, k ≤ n → k ≤ l.length → (∀ j (h : j < l.length), j < k → okC c l[j]) → k ≤ longL c n l
  | 0, _, _, _, _, _ => Nat.zero_le _
  | k + 1, n + 1, e :: r, h1, h2, h3 => by
    have h0 := h3 0 (by simp) (by omega)
    simp only [List.getElem_cons_zero] at h0
    rw [longL, if_neg (by rw [h0.1, h0.2]; decide)]
    have := longL_ge (c := c) (k := k) (n := n) (l := r) (by omega) (by simpa using h2) fun j hj hk => h3 (j + 1) (by simpa using hj) (by omega)
    omega
  | k + 1, 0, _, h1, _, _ => by omega
  | k + 1, _ + 1, [], _, h2, _ => by simp at h2
theorem longL_ok {c : Int} : ∀ {n : Nat} {l : List Evt} {j : Nat} (h : j < l.length), j < longL c n l → okC c l[j]
  | 0, _, _, _, h2 => by simp [longL] at h2
  | n + 1, e :: r, j, h, h2 => by
    rw [longL] at h2
    split at h2
    · omega
    · rename_i h0
      have h0 : restE e = false ∧ hasC e.stops c = false := by
        rw [Bool.not_eq_true, Bool.or_eq_false_iff] at h0
        exact h0
      cases j with
      | zero => exact h0
      | succ j => exact longL_ok (n := n) (l := r) (j := j) (by simpa using h) (by omega)
theorem hasC_map {f : Stp → Stp} (hf : ∀ s, (f s).c = s.c) (l : List Stp) (c : Int) : hasC (l.map f) c = hasC l c := by
  unfold hasC
  rw [List.any_map]
  congr 1
  funext s
  show ((f s).c == c) = _
  rw [hf]
theorem holdB_c (F : List Nat) (i : Nat) (s : Stp) : (holdB F i s).c = s.c := by unfold holdB; split <;> rfl
theorem okC_evB {c : Int} {F : List Nat} {i : Nat} {e : Evt} (h : okC c e) : okC c (evB F i e) := by
  refine ⟨?_, ?_⟩
  · rw [← h.1]; simp [restE, evB, evS]
  · rw [← h.2]; exact hasC_map (holdB_c F i) _ _
theorem okC_first {c : Int} {e f : Evt} (h1 : f.stops = e.stops) (h2 : f.tie = e.tie) (h : okC c e) : okC c f := by
  unfold okC restE at *
  rw [h1, h2]
  exact h
theorem okC_later {c : Int} {e f : Evt} (h1 : f.stops = []) (h2 : f.tie = !restE e) (h : restE e = false) : okC c f := by
  unfold okC
  rw [h1]
  refine ⟨?_, rfl⟩
  unfold restE
  rw [h1, h2, h]
  rfl
theorem parts_later {bar : Nat} {e : Evt} {a b : Nat} (hab : a < b) : ∀ {x : Nat} {g : List Evt}, Parts bar e a b x g → a < x → ∀ f ∈ g, f.stops = [] ∧ f.tie = !restE e
  | _, _, .done, _, f, hf => by cases hf
  | x, _, .step hx ht hb hm hbar htie hst h, hax, f, hf => by
    rcases List.mem_cons.1 hf with rfl | hf
    · rw [if_neg (by omega)] at htie hst
      exact ⟨hst, htie⟩
    · exact parts_later hab h (by omega) f hf
/-- a group is its first event, and ties behind it -/
theorem parts_first {bar : Nat} {e : Evt} {a b : Nat} (hab : a < b) {g : List Evt} (h : Parts bar e a b a g) : ∃ f t, g = f :: t ∧ f.stops = e.stops ∧ f.tie = e.tie ∧ ∀ x ∈ t, x.stops = [] ∧ x.tie = !restE e := by
  cases h with
  | done => omega
  | step hx ht hb hm hbar htie hst h =>
    rename_i f g
    rw [if_pos rfl] at htie hst
    have ht2 : 0 < tkn f := by unfold tkn; omega
    exact ⟨f, g, rfl, hst, htie, parts_later hab h (by omega)⟩
theorem parts_right {bar : Nat} {e : Evt} {a b : Nat} : ∀ {x : Nat} {g : List Evt}, Parts bar e a b x g → ∀ f ∈ g, right f.v f.d f.t = true ∧ f.v ≠ 0
  | _, _, .done, f, hf => by cases hf
  | x, _, .step hx ht hb hm hbar htie hst h, f, hf => by
    rcases List.mem_cons.1 hf with rfl | hf
    · have h1 : 0 < ticks f.v f.d f.t := ht
      rw [ticks_pos] at h1
      refine ⟨?_, by omega⟩
      unfold right
      rw [if_neg (by omega)]
      obtain ⟨q1, q2, q3⟩ := h1
      simp [q1, q2, q3]
    · exact parts_right h f hf
/-- what the groups of a list of events are -/
inductive Grps (bar : Nat) : Nat → List Evt → List (List Evt) → Prop
  | nil {a : Nat} : Grps bar a [] []
  | cons {a : Nat} {e : Evt} {r : List Evt} {g : List Evt} {G : List (List Evt)} (h : Parts bar e a (a + tkn e) a g) (hG : Grps bar (a + tkn e) r G) : Grps bar a (e :: r) (g :: G)
theorem brkL_grps {bar : Nat} (h0 : 0 < bar) : ∀ {l : List Evt} {a : Nat} {G : List (List Evt)}, (∀ e ∈ l, 0 < tkE e) → brkL bar a l = some G → Grps bar a l G
  | [], _, G, _, h => by
    simp only [brkL, Option.some.injEq] at h
    subst h
    exact .nil
  | e :: r, a, G, ht, h => by
    simp only [brkL] at h
    split at h
    · cases h
    · rename_i m hm
      rw [Option.map_eq_some_iff] at h
      obtain ⟨G', h1, rfl⟩ := h
      exact .cons (brkE_parts h0 (ht e (List.mem_cons_self ..)) hm) (brkL_grps h0 (fun x hx => ht x (List.mem_cons_of_mem _ hx)) h1)
theorem grps_len {bar : Nat} : ∀ {a : Nat} {l : List Evt} {G : List (List Evt)}, Grps bar a l G → G.length = l.length
  | _, _, _, .nil => rfl
  | _, _, _, .cons _ hG => by simp [grps_len hG]
theorem fstL_shift : ∀ (G : List (List Evt)) (h c : Nat), h < G.length → (fstL c G).getD h 0 = c + (fstL 0 G).getD h 0
  | g :: G, 0, c, _ => by simp [fstL]
  | g :: G, h + 1, c, hh => by
    have h2 : h < G.length := by simpa using hh
    simp only [fstL, List.getD_cons_succ, Nat.zero_add]
    rw [fstL_shift G h (c + g.length) h2, fstL_shift G h g.length h2]
    omega
/-- what a hold passes of the groups -/
theorem okC_run {bar : Nat} {c : Int} {F : List Nat} : ∀ {a i : Nat} {l : List Evt} {G : List (List Evt)}, Grps bar a l G → (∀ e ∈ l, 0 < tkn e) → ∀ h (hh : h < l.length), (∀ j (hj : j < l.length), j ≤ h → okC c l[j]) →
    ∀ t, t ≤ (fstL 0 G).getD h 0 → ∃ ht : t < (brkO F i G).length, okC c (brkO F i G)[t]
  | a, i, _, _, .nil, _, h, hh, _ => by simp at hh
  | a, i, e :: r, _, .cons (g := g) (G := G) hp hG, ht, h, hh, hok => by
    have hte := ht e (List.mem_cons_self ..)
    obtain ⟨f, tl, rfl, q1, q2, q3⟩ := parts_first (by omega) hp
    have he : okC c e := hok 0 (by simp) (by omega)
    intro t htt
    have hfst : ∀ t, t < (f :: tl).length → ∃ ht : t < (brkO F i ((f :: tl) :: G)).length, okC c (brkO F i ((f :: tl) :: G))[t] := by
      intro t h2
      have hl : t < (brkG F i (f :: tl)).length := by rw [brkG_len]; exact h2
      refine ⟨by simp only [brkO, List.length_append]; omega, ?_⟩
      have : (brkO F i ((f :: tl) :: G))[t]'(by simp only [brkO, List.length_append]; omega) = (brkG F i (f :: tl))[t] := by simp only [brkO]; rw [List.getElem_append_left hl]
      rw [this]
      cases t with
      | zero => exact okC_evB (okC_first q1 q2 he)
      | succ t =>
        have hm : tl[t]'(by simpa using h2) ∈ tl := List.getElem_mem _
        obtain ⟨u1, u2⟩ := q3 _ hm
        exact okC_later u1 u2 he.1
    cases h with
    | zero =>
      have : t = 0 := by simpa [fstL] using htt
      subst this
      exact hfst 0 (by simp)
    | succ h =>
      rcases Nat.lt_or_ge t (f :: tl).length with h2 | h2
      · exact hfst t h2
      · have hh2 : h < r.length := by simpa using hh
        have e1 : (fstL 0 ((f :: tl) :: G)).getD (h + 1) 0 = (f :: tl).length + (fstL 0 G).getD h 0 := by
          simp only [fstL, List.getD_cons_succ, Nat.zero_add]
          exact fstL_shift G h _ (by rw [grps_len hG]; exact hh2)
        obtain ⟨u1, u2⟩ := okC_run (F := F) (i := i + 1) hG (fun x hx => ht x (List.mem_cons_of_mem _ hx)) h hh2 (fun j hj hjh => hok (j + 1) (by simpa using hj) (by omega)) (t - (f :: tl).length) (by omega)
        have hl : (brkG F i (f :: tl)).length = (f :: tl).length := brkG_len _ _ _
        refine ⟨by simp only [brkO, List.length_append]; omega, ?_⟩
        have : (brkO F i ((f :: tl) :: G))[t]'(by simp only [brkO, List.length_append]; omega) = (brkO F (i + 1) G)[t - (f :: tl).length] := by
          simp only [brkO]
          rw [List.getElem_append_right (by omega)]
          simp only [hl]
        rw [this]
        exact u2
end Go.Ab.V

/-
  A broken piece is valid, the end. Plain Lean. No condition.
-/
namespace Go.Ab.V
open Go.Proofs

theorem suf_app {i : Ins} : ∀ {l m : List Evt}, (∀ f ∈ l, right f.v f.d f.t = true ∧ f.stops = []) → SufOk i m → SufOk i (l ++ m)
  | [], _, _, h => h
  | f :: l, m, hl, h => by
    obtain ⟨h1, h2⟩ := hl f (List.mem_cons_self ..)
    refine ⟨⟨h1, ?_, ?_⟩, suf_app (fun x hx => hl x (List.mem_cons_of_mem _ hx)) h⟩
    · rw [h2]; simp
    · rw [h2]; trivial
theorem stps_holdB {i : Ins} {F : List Nat} {k : Nat} {lg lg' : Int → Int} : ∀ {l : List Stp} {last : Int},
    (∀ s ∈ l, 0 < s.h → s.h ≤ lg s.c → 0 ≤ (holdB F k s).h ∧ (holdB F k s).h ≤ lg' s.c) → (∀ c, 0 ≤ lg' c) → StpsOk i lg last l → StpsOk i lg' last (l.map (holdB F k))
  | [], _, _, _, _ => trivial
  | s :: r, last, hh, h0, ⟨h1, h2⟩ => by
    refine ⟨?_, ?_⟩
    · rw [chkStop_iff] at h1 ⊢
      have q := hh s (List.mem_cons_self ..)
      have q0 := h0 s.c
      unfold holdB at q ⊢
      split
      · rename_i hp
        rw [if_pos hp] at q
        have := q hp (by omega)
        dsimp only at this ⊢
        have := h1.2.2.2.2.2.2 hp
        omega
      · omega
    · rw [holdB_c]
      exact stps_holdB (fun x hx => hh x (List.mem_cons_of_mem _ hx)) h0 h2
theorem brk_suf {bar : Nat} {F : List Nat} {ins : Ins} : ∀ {a i c : Nat} {l : List Evt} {G : List (List Evt)}, Grps bar a l G → (∀ e ∈ l, 0 < tkn e) → SufOk ins l → badL F i l = false →
    (∀ j, j < G.length → F.getD (i + j) 0 = c + (fstL 0 G).getD j 0) → SufOk ins (brkO F i G)
  | _, _, _, _, _, .nil, _, _, _, _ => trivial
  | a, i, c, e :: r, _, .cons (g := g) (G := G) hp hG, ht, hs, hb, hF => by
    have hte := ht e (List.mem_cons_self ..)
    have htr : ∀ x ∈ r, 0 < tkn x := fun x hx => ht x (List.mem_cons_of_mem _ hx)
    have hgl := grps_len hG
    have hrt := parts_right hp
    obtain ⟨f, tl, rfl, q1, q2, q3⟩ := parts_first (by omega) hp
    unfold badL at hb
    rw [Bool.or_eq_false_iff] at hb
    have hF1 : ∀ j, j < G.length → F.getD (i + 1 + j) 0 = c + (f :: tl).length + (fstL 0 G).getD j 0 := by
      intro j hj
      rw [show i + 1 + j = i + (j + 1) by omega, hF (j + 1) (by simp only [List.length_cons]; omega)]
      simp only [fstL, List.getD_cons_succ, Nat.zero_add]
      rw [fstL_shift G j _ hj]
      omega
    have hF0 : F.getD i 0 = c := by
      have := hF 0 (by simp)
      simpa [fstL] using this
    have ih := brk_suf (c := c + (f :: tl).length) hG htr hs.2 hb.2 hF1
    show SufOk ins (evB F i f :: (tl ++ brkO F (i + 1) G))
    refine ⟨⟨?_, ?_, ?_⟩, suf_app (fun x hx => ⟨(hrt x (List.mem_cons_of_mem _ hx)).1, (q3 x hx).1⟩) ih⟩
    · exact (hrt f (List.mem_cons_self ..)).1
    · have := hs.1.ti
      rw [← q1, ← q2] at this
      simpa [evB, evS] using this
    · show StpsOk ins _ 0 (f.stops.map (holdB F i))
      rw [q1]
      refine stps_holdB ?_ (fun c => by omega) hs.1.st
      intro s hs0 hp0 hlg
      have hbs : longH F i s = false := by
        have := List.any_eq_false.1 hb.1 s hs0
        simpa using this
      unfold longH at hbs
      rw [decide_eq_false_iff_not] at hbs
      unfold holdB at hbs ⊢
      rw [if_pos hp0] at hbs ⊢
      dsimp only at hbs ⊢
      obtain ⟨h, hh⟩ : ∃ h, s.h.toNat = h + 1 := ⟨s.h.toNat - 1, by omega⟩
      have hll := longL_len s.c 15 r
      have hll2 := longL_le s.c 15 r
      have hhr : h < r.length := by omega
      have hgh : h < G.length := by omega
      rw [hh, show i + (h + 1) = i + 1 + h by omega, hF0, hF1 h hgh] at hbs ⊢
      have hre : restE e = false := by
        unfold restE
        have : e.stops.length ≠ 0 := by
          intro h0
          rw [List.length_eq_zero_iff.1 h0] at hs0
          cases hs0
        simp [this]
      have hok : ∀ j (hj : j < r.length), j ≤ h → okC s.c r[j] := fun j hj hjh => longL_ok hj (n := 15) (by omega)
      have hrun := okC_run (F := F) (i := i + 1) hG htr h hhr hok
      simp only [List.length_cons] at hbs ⊢
      obtain ⟨w1, -⟩ := hrun _ (Nat.le_refl _)
      have hge : tl.length + 1 + (fstL 0 G).getD h 0 ≤ longL s.c 15 (tl ++ brkO F (i + 1) G) := by
        refine longL_ge (by omega) (by rw [List.length_append]; omega) fun j hj hk => ?_
        by_cases hjt : j < tl.length
        · rw [List.getElem_append_left hjt]
          obtain ⟨u1, u2⟩ := q3 _ (List.getElem_mem hjt)
          exact okC_later u1 u2 hre
        · rw [List.getElem_append_right (by omega)]
          exact (hrun (j - tl.length) (by omega)).2
      omega
theorem pln_tk {p : Pc} (hc : chk p = 0) : ∀ e ∈ outE plnS sz p.evs, 0 < tkE e := by
  intro e he
  rw [outE_pln] at he
  obtain ⟨i, hi, rfl⟩ := List.getElem_of_mem he
  have hil : i < p.evs.length := by simpa [nfs_len] using hi
  have hin : i < (nfs sz p.evs).length := by rw [nfs_len]; exact hil
  have := nfs_tk p.evs sz right_z (chk_right hc) (fun _ => chk_first hc) _ (List.getElem_mem hin)
  simp only [List.getElem_zipWith]
  exact this
theorem brk_chk {p q : Pc} {bar : Int} (h : brkP p bar = .ok q) : chk q = 0 := by
  obtain ⟨hc, hb1, hb2, G, hG, hl, hbad, rfl⟩ := brk_ok h
  have hP := pln_chk hc
  have hc2 := chk_suf.1 hP
  obtain ⟨h1, h2, h3, h4⟩ := hc2
  have htk : ∀ e ∈ outE plnS sz p.evs, 0 < tkE e := pln_tk hc
  have htn : ∀ e ∈ outE plnS sz p.evs, 0 < tkn e := fun e he => by have := htk e he; unfold tkn; omega
  have hg := brkL_grps (by omega) htk hG
  have hF : ∀ j, j < G.length → (fstL 0 G).getD (0 + j) 0 = 0 + (fstL 0 G).getD j 0 := fun j _ => by simp
  have hS := brk_suf (F := fstL 0 G) (i := 0) (c := 0) hg htn h3 hbad hF
  refine chk_suf.2 ⟨h1, by show (brkO _ _ _).length ≤ 400; rw [brkO_len]; exact hl, hS, ?_⟩
  show ∀ h : 0 < (brkO (fstL 0 G) 0 G).length, _
  obtain ⟨P, hPe⟩ : ∃ P, P = outE plnS sz p.evs := ⟨_, rfl⟩
  rw [← hPe] at hg htn h4
  cases hg with
  | nil => intro h; simp [brkO] at h
  | cons hp hG' =>
    rename_i e r g G'
    have hrt := parts_right hp
    have he := htn e (List.mem_cons_self ..)
    obtain ⟨f, tl, rfl, q1, q2, q3⟩ := parts_first (by omega) hp
    intro h
    refine ⟨(hrt f (List.mem_cons_self ..)).2, ?_⟩
    show f.tie = false
    rw [q2]
    exact (h4 (by simp)).2
end Go.Ab.V

/-
  Bare and Join of a valid piece are valid. Plain Lean. No condition.
-/
namespace Go.Ab.V
open Go.Proofs

/-- stops whose holds are shortened -/
theorem stps_short {i : Ins} {lg lg' : Int → Int} {f : Stp → Stp} (hc : ∀ s, (f s).c = s.c ∧ (f s).f = s.f ∧ ((0 ≤ s.r ∧ s.r ≤ 3 ∧ 0 ≤ s.g ∧ s.g ≤ 4) → (0 ≤ (f s).r ∧ (f s).r ≤ 3 ∧ 0 ≤ (f s).g ∧ (f s).g ≤ 4))) :
    ∀ {l : List Stp} {last : Int}, StpsOk i lg last l → (∀ s ∈ l, 0 ≤ s.h → s.h ≤ lg s.c → 0 ≤ (f s).h ∧ (f s).h ≤ lg' s.c ∧ (f s).h ≤ s.h) → StpsOk i lg' last (l.map f)
  | [], _, _, _ => trivial
  | s :: r, last, ⟨h1, h2⟩, h => by
    rw [chkStop_iff] at h1
    obtain ⟨a1, a2, a3⟩ := hc s
    obtain ⟨b1, b2, b3⟩ := h s (List.mem_cons_self ..) (by omega) (by omega)
    have a4 := a3 (by omega)
    refine ⟨?_, ?_⟩
    · rw [chkStop_iff, a1, a2]
      omega
    · rw [a1]
      exact stps_short hc h2 fun x hx => h x (List.mem_cons_of_mem _ hx)

theorem bareS_keeps (s : Stp) : (bareS s).c = s.c ∧ (bareS s).f = s.f ∧ ((0 ≤ s.r ∧ s.r ≤ 3 ∧ 0 ≤ s.g ∧ s.g ≤ 4) → (0 ≤ (bareS s).r ∧ (bareS s).r ≤ 3 ∧ 0 ≤ (bareS s).g ∧ (bareS s).g ≤ 4)) :=
  ⟨rfl, rfl, fun _ => by simp [bareS]⟩
theorem bare_suf {i : Ins} : ∀ {l : List Evt}, SufOk i l → SufOk i (l.map bareE)
  | [], _ => trivial
  | e :: r, ⟨⟨h1, h2, h3⟩, h4⟩ => by
    refine ⟨⟨h1, by simpa [bareE] using h2, ?_⟩, bare_suf h4⟩
    refine stps_short bareS_keeps h3 fun s _ a b => ?_
    refine ⟨by simp [bareS], by simp only [bareS]; omega, by simp only [bareS]; omega⟩
theorem bare_chk {p : Pc} (hc : chk p = 0) : chk ⟨p.ins, p.evs.map bareE⟩ = 0 := by
  rw [chk_suf] at hc ⊢
  obtain ⟨h1, h2, h3, h4⟩ := hc
  refine ⟨h1, by simpa using h2, bare_suf h3, fun h => ?_⟩
  have := h4 (by simpa using h)
  simpa [bareE] using this

/-! ### Join -/
theorem sgFind_mem {t : Int} : ∀ {l : List Sgn} {s : Sgn}, sgFind t l = some s → s ∈ l ∧ s.tk = t
  | a :: r, s, h => by
    unfold sgFind at h
    split at h
    · obtain rfl := Option.some.inj h; exact ⟨List.mem_cons_self .., by assumption⟩
    · have := sgFind_mem h; exact ⟨List.mem_cons_of_mem _ this.1, this.2⟩
theorem sgs_right : ∀ s ∈ sgs, right s.v s.d s.t = true ∧ 0 < s.tk := by decide
theorem sgOf_right {t : Int} {s : Sgn} (h : sgOf t = some s) : right s.v s.d s.t = true ∧ 0 < s.tk ∧ s.tk = t := by
  have := sgFind_mem h
  exact ⟨(sgs_right s this.1).1, (sgs_right s this.1).2, this.2⟩
def GoodE (e : Evt) : Prop := right e.v e.d e.t = true ∧ 0 < tkE e
theorem good_jst1 {st : Jn} {e : Evt} (h : ∀ x ∈ st.o, GoodE x) (he : GoodE e) : ∀ x ∈ (jst1 st e).o, GoodE x := by
  unfold jst1
  split
  · rename_i s hs
    have hp := (mrg_pos hs).2.2
    have hr := sgOf_right hp
    intro x hx
    rcases List.mem_or_eq_of_mem_set hx with hx | rfl
    · exact h x hx
    · exact ⟨hr.1, hr.2.1⟩
  · intro x hx
    rcases List.mem_append.1 hx with hx | hx
    · exact h x hx
    · rw [List.mem_singleton.1 hx]; exact he
theorem good_fold {l : List Evt} : ∀ {st : Jn}, (∀ x ∈ st.o, GoodE x) → (∀ e ∈ l, GoodE e) → ∀ x ∈ (l.foldl jst1 st).o, GoodE x := by
  induction l with
  | nil => intro st h _; exact h
  | cons e r ih =>
    intro st h hl
    exact ih (good_jst1 h (hl e (List.mem_cons_self ..))) fun x hx => hl x (List.mem_cons_of_mem _ hx)
theorem good_jst {l : List Evt} (h : ∀ e ∈ l, GoodE e) : ∀ x ∈ (jst l).o, GoodE x := good_fold (fun x hx => by cases hx) h
theorem fold_m0 {l : List Evt} : ∀ {st : Jn}, st.m[0]? = some false → (l.foldl jst1 st).m[0]? = some false := by
  induction l with
  | nil => intro st h; exact h
  | cons e r ih =>
    intro st h
    refine ih ?_
    have hl : 0 < st.m.length := (List.getElem?_eq_some_iff.1 h).1
    unfold jst1
    split <;> (show (st.m ++ _)[0]? = _; rw [List.getElem?_append_left hl]; exact h)
theorem jst_m0 {l : List Evt} (h : 0 < l.length) : (jst l).m[0]? = some false := by
  cases l with
  | nil => simp at h
  | cons e r =>
    show (r.foldl jst1 (jst1 ⟨[], [], []⟩ e)).m[0]? = _
    refine fold_m0 (l := r) ?_
    unfold jst1
    have : mrg [] e = none := by unfold mrg mayJ; simp
    rw [show mrg (⟨[], [], []⟩ : Jn).o e = none from this]
    rfl
/-- each place of the result comes from an event that is not merged -/
theorem cF_inv : ∀ {m : List Bool} {j : Nat}, j < cF m → ∃ i, ∃ h : i < m.length, m[i] = false ∧ cF (m.take i) = j
  | b :: r, j, h => by
    cases b with
    | true =>
      have h' : j < cF r := by simpa [cF] using h
      obtain ⟨i, hi, h1, h2⟩ := cF_inv h'
      exact ⟨i + 1, by simp; omega, by simpa using h1, by simpa [cF] using h2⟩
    | false =>
      cases j with
      | zero => exact ⟨0, by simp, by simp, by simp [cF]⟩
      | succ j =>
        have h' : j < cF r := by simp [cF] at h; omega
        obtain ⟨i, hi, h1, h2⟩ := cF_inv h'
        exact ⟨i + 1, by simp; omega, by simpa using h1, by simp [cF]; omega⟩
theorem cF_mono {m : List Bool} {a b : Nat} (h : a ≤ b) : cF (m.take a) ≤ cF (m.take b) := by
  have : m.take b = m.take a ++ (m.take b).drop a := by
    have := List.take_append_drop a (m.take b)
    rw [List.take_take, Nat.min_eq_left h] at this
    exact this.symm
  rw [this, cF_app]
  omega
theorem cF_cnt : ∀ (l : List Bool), cF l + cntT l = l.length
  | [] => rfl
  | b :: r => by
    have := cF_cnt r
    cases b <;> simp [cF, cntT] <;> omega
/-- an event of the result -/
theorem jL_ev {l : List Evt} {j : Nat} (hj : j < (jL (jst l)).length) : ∃ i, ∃ hi : i < l.length, ∃ hm : i < (jst l).m.length, (jst l).m[i] = false ∧ cF ((jst l).m.take i) = j ∧
    ∃ s : Sgn, (jst l).o[j]? = some (withS l[i] s) ∧ (jL (jst l))[j] = goneE (jst l).m i (withS l[i] s) := by
  have hI := jinv l
  have hj2 : j < (jst l).o.length := by rw [jL_len hI] at hj; exact hj
  have hj3 : j < cF (jst l).m := by rw [← hI.ol]; exact hj2
  obtain ⟨i, hm, h1, h2⟩ := cF_inv hj3
  have hi : i < l.length := by rw [← hI.ml]; exact hm
  obtain ⟨q1, q2, q3, q4⟩ := jL_at hI hi h1
  have hg := hI.gi i hm h1
  obtain ⟨i', e, s, k1, k2, k3⟩ := hI.gs _ q1
  rw [hg] at k1
  obtain rfl := Option.some.inj k1
  rw [List.getElem?_eq_getElem hi] at k2
  obtain rfl := Option.some.inj k2
  subst h2
  refine ⟨i, hi, hm, h1, rfl, s, k3, ?_⟩
  rw [q3]
  rw [List.getElem?_eq_getElem q1] at k3
  rw [Option.some.inj k3]

theorem join_chk {p : Pc} (hc : chk p = 0) (hg : ∀ e ∈ p.evs, GoodE e) : chk ⟨p.ins, joinE p.evs⟩ = 0 := by
  obtain ⟨l, hl⟩ : ∃ l, l = p.evs := ⟨_, rfl⟩
  rw [chk_suf] at hc ⊢
  obtain ⟨h1, h2, h3, h4⟩ := hc
  simp only
  rw [← hl] at h2 h3 h4 hg ⊢
  have hI := jinv l
  have hle : (jL (jst l)).length ≤ l.length := by
    have a1 := hI.ol
    have a2 := cF_le (jst l).m
    have a3 := hI.ml
    rw [jL_len hI]
    omega
  have hgo := good_jst hg
  refine ⟨h1, by show (jL (jst l)).length ≤ 400; omega, SufOk.of fun j hj => ?_, fun h => ?_⟩
  · have hj : j < (jL (jst l)).length := hj
    obtain ⟨i, hi, hm, k1, k2, s, k3, k4⟩ := jL_ev hj
    show EvOk p.ins (jL (jst l))[j] ((jL (jst l)).drop (j + 1))
    rw [k4]
    have hev := h3.at hi
    have hgd : GoodE (withS l[i] s) := hgo _ (List.mem_of_getElem? k3)
    refine ⟨hgd.1, ?_, ?_⟩
    · have := hev.ti
      simpa [goneE, evS, withS] using this
    · refine stps_short (f := goneS (jst l).m i) (fun s => ⟨rfl, rfl, fun x => x⟩) hev.st fun x hx a b => ?_
      have hxl := longL_len x.c 15 (l.drop (i + 1))
      rw [List.length_drop] at hxl
      have hll := longL_le x.c 15 (l.drop (i + 1))
      obtain ⟨n, hn⟩ : ∃ n, n = x.h.toNat := ⟨_, rfl⟩
      have hxn : x.h = (n : Int) := by omega
      have hcut : cF ((jst l).m.take (i + 1 + n)) = j + 1 + cF (((jst l).m.drop (i + 1)).take n) := by
        rw [List.take_add, cF_app, cF_succ hm, k1, k2]
        simp
      have hcnt := cF_cnt (((jst l).m.drop (i + 1)).take n)
      have hlen : (((jst l).m.drop (i + 1)).take n).length = n := by
        rw [List.length_take, List.length_drop, hI.ml]; omega
      have htot : cF ((jst l).m.take (i + 1 + n)) ≤ cF (jst l).m := by
        have := cF_mono (m := (jst l).m) (a := i + 1 + n) (b := (jst l).m.length) (by rw [hI.ml]; omega)
        rwa [List.take_length] at this
      have hh : (goneS (jst l).m i x).h = (cF (((jst l).m.drop (i + 1)).take n) : Nat) := by
        show x.h - _ = _
        rw [← hn, hxn]
        omega
      obtain ⟨k, hk⟩ : ∃ k, k = cF (((jst l).m.drop (i + 1)).take n) := ⟨_, rfl⟩
      rw [← hk] at hh hcut hcnt
      rw [hh]
      refine ⟨by omega, ?_, by omega⟩
      have : k ≤ longL x.c 15 ((jL (jst l)).drop (j + 1)) := by
        refine longL_ge (by omega) (by rw [List.length_drop, jL_len hI, hI.ol]; omega) fun d hd hdk => ?_
        rw [List.getElem_drop]
        rw [List.length_drop] at hd
        obtain ⟨i', hi', hm', q1, q2, s', q3, q4⟩ := jL_ev (l := l) (j := j + 1 + d) (by omega)
        have c1 : i < i' := by
          rcases Nat.lt_or_ge i i' with c | c
          · exact c
          · have := cF_mono (m := (jst l).m) c; omega
        have c2 : i' < i + 1 + n := by
          rcases Nat.lt_or_ge i' (i + 1 + n) with c | c
          · exact c
          · have := cF_mono (m := (jst l).m) c; omega
        have hok := longL_ok (c := x.c) (n := 15) (l := l.drop (i + 1)) (j := i' - (i + 1)) (by rw [List.length_drop]; omega) (by omega)
        rw [List.getElem_drop] at hok
        have e : i + 1 + (i' - (i + 1)) = i' := by omega
        have hok' : okC x.c l[i'] := by
          have : l[i + 1 + (i' - (i + 1))]'(by omega) = l[i'] := by congr 1
          rw [← this]; exact hok
        rw [q4]
        unfold okC at hok' ⊢
        refine ⟨?_, ?_⟩
        · have := hok'.1
          unfold restE at this ⊢
          simpa [goneE, evS, withS] using this
        · show hasC ((l[i']).stops.map (goneS (jst l).m i')) x.c = false
          rw [hasC_map (f := goneS (jst l).m i') (fun _ => rfl)]
          exact hok'.2
      show (k : Int) ≤ ((longL x.c 15 ((jL (jst l)).drop (j + 1)) : Nat) : Int)
      omega
  · have h : 0 < (jL (jst l)).length := h
    have hl0 : 0 < l.length := by omega
    obtain ⟨i, hi, hm, k1, k2, s, k3, k4⟩ := jL_ev h
    have hi0 : i = 0 := by
      rcases Nat.eq_zero_or_pos i with c | c
      · exact c
      · have hm0 := jst_m0 hl0
        have c1 : 0 < (jst l).m.length := by rw [hI.ml]; exact hl0
        have := cF_mono (m := (jst l).m) (a := 1) (b := i) (by omega)
        have c2 := cF_succ (m := (jst l).m) (i := 0) c1
        rw [List.getElem?_eq_getElem c1] at hm0
        rw [Option.some.inj hm0] at c2
        simp [cF] at c2
        omega
    subst hi0
    show ((jL (jst l))[0]).v ≠ 0 ∧ ((jL (jst l))[0]).tie = false
    rw [k4]
    have hgd : GoodE (withS l[0] s) := hgo _ (List.mem_of_getElem? k3)
    refine ⟨fun hv => ?_, (h4 hl0).2⟩
    have hv : s.v = 0 := hv
    have := hgd.2
    have h5 : 0 < ticks s.v s.d s.t := this
    rw [hv] at h5
    simp [ticks] at h5

theorem pln_good {p : Pc} (hc : chk p = 0) : ∀ e ∈ outE plnS sz p.evs, GoodE e := fun e he => ⟨chk_right (pln_chk hc) e he, pln_tk hc e he⟩
theorem joined_chk {p : Pc} (hc : chk p = 0) : chk ⟨p.ins, joinE (outE plnS sz p.evs)⟩ = 0 := join_chk (p := ⟨p.ins, outE plnS sz p.evs⟩) (pln_chk hc) (pln_good hc)

end Go.Ab.V

/-
  The law PieceValid. No condition.
-/
namespace Go.Ab.V
open Go.Proofs

def A18 : Ann := fun r => match r with
  | 0 => { slots := [(0, 0)] }
  | 4 => { slots := [(0, 1)] }
  | 5 => { slots := [(0, 2)] }
  | 18 => { slots := [(4, 3), (5, 4)] }
  | _ => {}
def pcR (p : Pc) : List AV := [crsA p.ins.cs, intsA p.ins.steps, evsA p.evs]
theorem cut_valid {p q : Pc} {a b : Int} (h : cutP p a b = .ok q) : chk q = 0 ∧ q.ins = p.ins := by
  unfold cutP at h
  split at h
  · cases h
  · rename_i hc
    have hc : chk p = 0 := by simpa using hc
    split at h
    · cases h
    · rename_i hb
      cases h
      exact ⟨cut_chk hc (by omega) (by omega), rfl⟩
theorem cutP_ne {p : Pc} {a b e : Int} (h : cutP p a b = .error e) : e ≠ 0 := by
  unfold cutP at h
  split at h
  · rename_i hc; cases h; exact hc
  · split at h
    · cases h; decide
    · cases h
theorem brkP_ne' {p : Pc} {b e : Int} (h : brkP p b = .error e) : e ≠ 0 := by
  unfold brkP at h
  split at h
  · rename_i hc; cases h; exact hc
  · split at h
    · cases h; decide
    · unfold brkQ at h
      split at h
      · cases h; decide
      · split at h
        · cases h; decide
        · unfold brkT at h
          split at h
          · cases h; decide
          · cases h
theorem brk_ins {p q : Pc} {b : Int} (h : brkP p b = .ok q) : q.ins = p.ins := by
  obtain ⟨_, _, _, G, _, _, _, rfl⟩ := brk_ok h
  rfl
theorem ok_of {q : Pc} (h : q.Sm) : q.Ok := ⟨by have := h.cs; omega, by have := h.st; omega, by have := h.ev; omega, fun e he => by have := h.sp e he; omega⟩
/-- what PieceValid looks at -/
structure Vld (p q : Pc) : Prop where
  ck : PRet C.P 23 [pcA q] (.int .i64 0)
  sm : PRet C.P 62 [inA q.ins, inA p.ins] (.bool true)
theorem vld_of {p q : Pc} (hs : p.Sm) (h : q.Sm) (hc : chk q = 0) (hi : q.ins = p.ins) : Vld p q := by
  refine ⟨?_, ?_⟩
  · have := refCheck_spec q (ok_of h) h.ev
    rwa [hc] at this
  · have := sameIn62_spec q.ins p.ins (by have := h.cs; omega) (by have := h.st; omega)
    rw [hi] at this ⊢
    simpa using this

set_option maxHeartbeats 16000000 in
set_option maxRecDepth 100000 in
theorem valid_11 (p : Pc) (n m : Int) (b1 : PRet C.P 51 [pcA p] (.bool false)) (c1 : PRet C.P 21 [pcA p] (pcA p)) (k0 : PRet C.P 23 [pcA p] (.int .i64 0)) (x1 x2 x3 x4 x5 x6 : Pc)
    (a1 : PRet C.P 54 [pcA p] (.tup [pcA x1, .int .i64 0])) (a2 : PRet C.P 56 [pcA p] (.tup [pcA x2, .int .i64 0])) (a3 : PRet C.P 58 [pcA p] (.tup [pcA x3, .int .i64 0])) (a4 : PRet C.P 60 [pcA p] (.tup [pcA x4, .int .i64 0]))
    (a5 : PRet C.P 19 [pcA p, .int .i64 n] (.tup [pcA x5, .int .i64 0])) (a6 : PRet C.P 49 [pcA p, .int .i64 n, .int .i64 m] (.tup [pcA x6, .int .i64 0])) (v1 : Vld p x1) (v2 : Vld p x2) (v3 : Vld p x3) (v4 : Vld p x4) (v5 : Vld p x5) (v6 : Vld p x6) :
    ACalls C.P 18 [pcA p, .int .i64 n, .int .i64 m] Heap.nil fun r _ => r = .bool true := by
  refine fn_of ok mixed (A := A18) 5 Try.func18 rfl ?_
  (conv => whnf)
  intro e0
  (repeat' (first | exact rfl | ((conv => whnf); first | refine ⟨_, b1, ?_⟩ | refine ⟨_, c1, ?_⟩ | refine ⟨_, k0, ?_⟩ | refine ⟨_, a1, ?_⟩ | refine ⟨_, a2, ?_⟩ | refine ⟨_, a3, ?_⟩ | refine ⟨_, a4, ?_⟩ | refine ⟨_, a5, ?_⟩ | refine ⟨_, a6, ?_⟩ | refine ⟨_, works_spec, ?_⟩ | exact rfl | refine ⟨by kernel_rfl, ?_⟩ | exact ⟨rfl, rfl⟩ | refine ⟨rfl, ?_⟩ | refine ⟨by (first | omega | (simp (disch := omega) only [wrapI]; omega) | (simp (disch := omega) only [wrapI]; simp; omega) | (simp; omega)), ?_⟩ | (intro ep) | refine ⟨of_decide_eq_true (by kernel_rfl), ?_⟩ | fail)))
  (conv => whnf)
  refine loopU ok mixed (A := A18) 8 ?_
  (repeat' (first | exact rfl | ((conv => whnf); first | refine ⟨_, b1, ?_⟩ | refine ⟨_, c1, ?_⟩ | refine ⟨_, k0, ?_⟩ | refine ⟨_, a1, ?_⟩ | refine ⟨_, a2, ?_⟩ | refine ⟨_, a3, ?_⟩ | refine ⟨_, a4, ?_⟩ | refine ⟨_, a5, ?_⟩ | refine ⟨_, a6, ?_⟩ | refine ⟨_, works_spec, ?_⟩ | exact rfl | refine ⟨by kernel_rfl, ?_⟩ | exact ⟨rfl, rfl⟩ | refine ⟨rfl, ?_⟩ | refine ⟨by (first | omega | (simp (disch := omega) only [wrapI]; omega) | (simp (disch := omega) only [wrapI]; simp; omega) | (simp; omega)), ?_⟩ | (intro ep) | refine ⟨of_decide_eq_true (by kernel_rfl), ?_⟩ | (refine ifB (fun hb => ?_) (fun hb => ?_) <;> (try (exfalso; simp only [beq_iff_eq, beq_eq_false_iff_ne] at hb; omega))) | fail)))
  all_goals (conv => whnf)
  obtain ⟨L, hL⟩ : ∃ L : List Pc, L = [x1, x2, x3, x4, x5, x6] := ⟨_, rfl⟩
  have hV : ∀ k (h : k < L.length), Vld p L[k] := by
    subst hL
    intro k h
    simp only [List.length_cons, List.length_nil] at h
    match k, h with
    | 0, _ => exact v1
    | 1, _ => exact v2
    | 2, _ => exact v3
    | 3, _ => exact v4
    | 4, _ => exact v5
    | 5, _ => exact v6
    | k + 6, h => exact absurd h (by omega)
  have hl : L.length = 6 := by rw [hL]; rfl
  have hr : ([pcR x1, pcR x2, pcR x3, pcR x4, pcR x5, pcR x6] : List (List AV)) = L.map pcR := by rw [hL]; rfl
  refine loopM ok mixed (A := A18) [3, 7, 11] [0, 4] (S := { k : Nat // k ≤ 6 })
    (fr := fun s => frOf 0 117 [(3, .optr (.s 0) e0 3 0 0), (7, .oslc (.s 4) ep 3 0 6 false), (11, .int .i64 (s.1 : Int))])
    (h := fun s => ⟨[.vec e0 [pcR p], .hole, .hole, .hole, .vec ep (L.map pcR)], []⟩) (μ := fun s => 6 - s.1) ⟨0, by omega⟩ ?_ ?_ ?_
  · exact rfl
  · rw [← hr]; exact rfl
  clear hr hL
  rintro ⟨k, hk⟩
  show aexR _ _ _ (frOf 0 117 [(3, .optr (.s 0) e0 3 0 0), (7, .oslc (.s 4) ep 3 0 6 false), (11, .int .i64 (k : Int))]) ⟨[.vec e0 [pcR p], .hole, .hole, .hole, .vec ep (L.map pcR)], []⟩ _
  (conv => whnf)
  refine ifB (fun g1 => ?_) (fun g1 => ?_)
  · simp only [decide_eq_true_eq] at g1
    have hlt : k < L.length := by omega
    have hv := hV k hlt
    obtain ⟨q, hq⟩ : ∃ q, L[k] = q := ⟨_, rfl⟩
    have hm := mapR (f := pcR) hlt
    rw [hq] at hm hv
    have w1 := hv.ck
    have w2 := hv.sm
    (repeat' (first | exact rfl | ((conv => whnf); first | refine ⟨_, w1, ?_⟩ | refine ⟨_, w2, ?_⟩ | refine optS hm ?_ | exact rfl | refine ⟨by kernel_rfl, ?_⟩ | exact ⟨rfl, rfl⟩ | refine ⟨rfl, ?_⟩ | refine ⟨by (first | omega | (simp (disch := omega) only [wrapI]; omega) | (simp (disch := omega) only [wrapI]; simp; omega) | (simp; omega)), ?_⟩ | (intro ep) | fail)))
    (conv => whnf)
    refine back_of ⟨k + 1, by omega⟩ ⟨by (first | exact rfl | (simp (disch := omega) only [wrapI]; exact rfl)), rfl, by simp only; omega⟩
  · (repeat' (first | exact rfl | ((conv => whnf); first | refine ⟨_, works_spec, ?_⟩ | exact rfl | refine ⟨by kernel_rfl, ?_⟩ | exact ⟨rfl, rfl⟩ | refine ⟨rfl, ?_⟩ | refine ⟨by (first | omega | (simp (disch := omega) only [wrapI]; omega) | (simp (disch := omega) only [wrapI]; simp; omega) | (simp; omega)), ?_⟩ | (intro ep) | fail)))

set_option maxHeartbeats 16000000 in
set_option maxRecDepth 100000 in
theorem valid_10 (p : Pc) (n m : Int) (b1 : PRet C.P 51 [pcA p] (.bool false)) (c1 : PRet C.P 21 [pcA p] (pcA p)) (k0 : PRet C.P 23 [pcA p] (.int .i64 0)) (x1 x2 x3 x4 x5 : Pc) (e6 : Int) (n6 : e6 ≠ 0)
    (a1 : PRet C.P 54 [pcA p] (.tup [pcA x1, .int .i64 0])) (a2 : PRet C.P 56 [pcA p] (.tup [pcA x2, .int .i64 0])) (a3 : PRet C.P 58 [pcA p] (.tup [pcA x3, .int .i64 0])) (a4 : PRet C.P 60 [pcA p] (.tup [pcA x4, .int .i64 0]))
    (a5 : PRet C.P 19 [pcA p, .int .i64 n] (.tup [pcA x5, .int .i64 0])) (a6 : PRet C.P 49 [pcA p, .int .i64 n, .int .i64 m] (.tup [zeroA, .int .i64 e6])) (v1 : Vld p x1) (v2 : Vld p x2) (v3 : Vld p x3) (v4 : Vld p x4) (v5 : Vld p x5) :
    ACalls C.P 18 [pcA p, .int .i64 n, .int .i64 m] Heap.nil fun r _ => r = .bool true := by
  refine fn_of ok mixed (A := A18) 5 Try.func18 rfl ?_
  (conv => whnf)
  intro e0
  (repeat' (first | exact rfl | ((conv => whnf); first | refine ⟨_, b1, ?_⟩ | refine ⟨_, c1, ?_⟩ | refine ⟨_, k0, ?_⟩ | refine ⟨_, a1, ?_⟩ | refine ⟨_, a2, ?_⟩ | refine ⟨_, a3, ?_⟩ | refine ⟨_, a4, ?_⟩ | refine ⟨_, a5, ?_⟩ | refine ⟨_, a6, ?_⟩ | refine ⟨_, works_spec, ?_⟩ | exact rfl | refine ⟨by kernel_rfl, ?_⟩ | exact ⟨rfl, rfl⟩ | refine ⟨rfl, ?_⟩ | refine ⟨by (first | omega | (simp (disch := omega) only [wrapI]; omega) | (simp (disch := omega) only [wrapI]; simp; omega) | (simp; omega)), ?_⟩ | (intro ep) | refine ⟨of_decide_eq_true (by kernel_rfl), ?_⟩ | fail)))
  (conv => whnf)
  refine loopU ok mixed (A := A18) 8 ?_
  (repeat' (first | exact rfl | ((conv => whnf); first | refine ⟨_, b1, ?_⟩ | refine ⟨_, c1, ?_⟩ | refine ⟨_, k0, ?_⟩ | refine ⟨_, a1, ?_⟩ | refine ⟨_, a2, ?_⟩ | refine ⟨_, a3, ?_⟩ | refine ⟨_, a4, ?_⟩ | refine ⟨_, a5, ?_⟩ | refine ⟨_, a6, ?_⟩ | refine ⟨_, works_spec, ?_⟩ | exact rfl | refine ⟨by kernel_rfl, ?_⟩ | exact ⟨rfl, rfl⟩ | refine ⟨rfl, ?_⟩ | refine ⟨by (first | omega | (simp (disch := omega) only [wrapI]; omega) | (simp (disch := omega) only [wrapI]; simp; omega) | (simp; omega)), ?_⟩ | (intro ep) | refine ⟨of_decide_eq_true (by kernel_rfl), ?_⟩ | (refine ifB (fun hb => ?_) (fun hb => ?_) <;> (try (exfalso; simp only [beq_iff_eq, beq_eq_false_iff_ne] at hb; omega))) | fail)))
  all_goals (conv => whnf)
  obtain ⟨L, hL⟩ : ∃ L : List Pc, L = [x1, x2, x3, x4, x5] := ⟨_, rfl⟩
  have hV : ∀ k (h : k < L.length), Vld p L[k] := by
    subst hL
    intro k h
    simp only [List.length_cons, List.length_nil] at h
    match k, h with
    | 0, _ => exact v1
    | 1, _ => exact v2
    | 2, _ => exact v3
    | 3, _ => exact v4
    | 4, _ => exact v5
    | k + 5, h => exact absurd h (by omega)
  have hl : L.length = 5 := by rw [hL]; rfl
  have hr : ([pcR x1, pcR x2, pcR x3, pcR x4, pcR x5] : List (List AV)) = L.map pcR := by rw [hL]; rfl
  refine loopM ok mixed (A := A18) [3, 7, 11] [0, 4] (S := { k : Nat // k ≤ 5 })
    (fr := fun s => frOf 0 117 [(3, .optr (.s 0) e0 3 0 0), (7, .oslc (.s 4) ep 3 0 5 false), (11, .int .i64 (s.1 : Int))])
    (h := fun s => ⟨[.vec e0 [pcR p], .hole, .hole, .hole, .vec ep (L.map pcR)], []⟩) (μ := fun s => 5 - s.1) ⟨0, by omega⟩ ?_ ?_ ?_
  · exact rfl
  · rw [← hr]; exact rfl
  clear hr hL
  rintro ⟨k, hk⟩
  show aexR _ _ _ (frOf 0 117 [(3, .optr (.s 0) e0 3 0 0), (7, .oslc (.s 4) ep 3 0 5 false), (11, .int .i64 (k : Int))]) ⟨[.vec e0 [pcR p], .hole, .hole, .hole, .vec ep (L.map pcR)], []⟩ _
  (conv => whnf)
  refine ifB (fun g1 => ?_) (fun g1 => ?_)
  · simp only [decide_eq_true_eq] at g1
    have hlt : k < L.length := by omega
    have hv := hV k hlt
    obtain ⟨q, hq⟩ : ∃ q, L[k] = q := ⟨_, rfl⟩
    have hm := mapR (f := pcR) hlt
    rw [hq] at hm hv
    have w1 := hv.ck
    have w2 := hv.sm
    (repeat' (first | exact rfl | ((conv => whnf); first | refine ⟨_, w1, ?_⟩ | refine ⟨_, w2, ?_⟩ | refine optS hm ?_ | exact rfl | refine ⟨by kernel_rfl, ?_⟩ | exact ⟨rfl, rfl⟩ | refine ⟨rfl, ?_⟩ | refine ⟨by (first | omega | (simp (disch := omega) only [wrapI]; omega) | (simp (disch := omega) only [wrapI]; simp; omega) | (simp; omega)), ?_⟩ | (intro ep) | fail)))
    (conv => whnf)
    refine back_of ⟨k + 1, by omega⟩ ⟨by (first | exact rfl | (simp (disch := omega) only [wrapI]; exact rfl)), rfl, by simp only; omega⟩
  · (repeat' (first | exact rfl | ((conv => whnf); first | refine ⟨_, works_spec, ?_⟩ | exact rfl | refine ⟨by kernel_rfl, ?_⟩ | exact ⟨rfl, rfl⟩ | refine ⟨rfl, ?_⟩ | refine ⟨by (first | omega | (simp (disch := omega) only [wrapI]; omega) | (simp (disch := omega) only [wrapI]; simp; omega) | (simp; omega)), ?_⟩ | (intro ep) | fail)))

set_option maxHeartbeats 16000000 in
set_option maxRecDepth 100000 in
theorem valid_01 (p : Pc) (n m : Int) (b1 : PRet C.P 51 [pcA p] (.bool false)) (c1 : PRet C.P 21 [pcA p] (pcA p)) (k0 : PRet C.P 23 [pcA p] (.int .i64 0)) (x1 x2 x3 x4 x6 : Pc) (e5 : Int) (n5 : e5 ≠ 0)
    (a1 : PRet C.P 54 [pcA p] (.tup [pcA x1, .int .i64 0])) (a2 : PRet C.P 56 [pcA p] (.tup [pcA x2, .int .i64 0])) (a3 : PRet C.P 58 [pcA p] (.tup [pcA x3, .int .i64 0])) (a4 : PRet C.P 60 [pcA p] (.tup [pcA x4, .int .i64 0]))
    (a5 : PRet C.P 19 [pcA p, .int .i64 n] (.tup [zeroA, .int .i64 e5])) (a6 : PRet C.P 49 [pcA p, .int .i64 n, .int .i64 m] (.tup [pcA x6, .int .i64 0])) (v1 : Vld p x1) (v2 : Vld p x2) (v3 : Vld p x3) (v4 : Vld p x4) (v6 : Vld p x6) :
    ACalls C.P 18 [pcA p, .int .i64 n, .int .i64 m] Heap.nil fun r _ => r = .bool true := by
  refine fn_of ok mixed (A := A18) 5 Try.func18 rfl ?_
  (conv => whnf)
  intro e0
  (repeat' (first | exact rfl | ((conv => whnf); first | refine ⟨_, b1, ?_⟩ | refine ⟨_, c1, ?_⟩ | refine ⟨_, k0, ?_⟩ | refine ⟨_, a1, ?_⟩ | refine ⟨_, a2, ?_⟩ | refine ⟨_, a3, ?_⟩ | refine ⟨_, a4, ?_⟩ | refine ⟨_, a5, ?_⟩ | refine ⟨_, a6, ?_⟩ | refine ⟨_, works_spec, ?_⟩ | exact rfl | refine ⟨by kernel_rfl, ?_⟩ | exact ⟨rfl, rfl⟩ | refine ⟨rfl, ?_⟩ | refine ⟨by (first | omega | (simp (disch := omega) only [wrapI]; omega) | (simp (disch := omega) only [wrapI]; simp; omega) | (simp; omega)), ?_⟩ | (intro ep) | refine ⟨of_decide_eq_true (by kernel_rfl), ?_⟩ | fail)))
  (conv => whnf)
  refine loopU ok mixed (A := A18) 8 ?_
  (repeat' (first | exact rfl | ((conv => whnf); first | refine ⟨_, b1, ?_⟩ | refine ⟨_, c1, ?_⟩ | refine ⟨_, k0, ?_⟩ | refine ⟨_, a1, ?_⟩ | refine ⟨_, a2, ?_⟩ | refine ⟨_, a3, ?_⟩ | refine ⟨_, a4, ?_⟩ | refine ⟨_, a5, ?_⟩ | refine ⟨_, a6, ?_⟩ | refine ⟨_, works_spec, ?_⟩ | exact rfl | refine ⟨by kernel_rfl, ?_⟩ | exact ⟨rfl, rfl⟩ | refine ⟨rfl, ?_⟩ | refine ⟨by (first | omega | (simp (disch := omega) only [wrapI]; omega) | (simp (disch := omega) only [wrapI]; simp; omega) | (simp; omega)), ?_⟩ | (intro ep) | refine ⟨of_decide_eq_true (by kernel_rfl), ?_⟩ | (refine ifB (fun hb => ?_) (fun hb => ?_) <;> (try (exfalso; simp only [beq_iff_eq, beq_eq_false_iff_ne] at hb; omega))) | fail)))
  all_goals (conv => whnf)
  obtain ⟨L, hL⟩ : ∃ L : List Pc, L = [x1, x2, x3, x4, x6] := ⟨_, rfl⟩
  have hV : ∀ k (h : k < L.length), Vld p L[k] := by
    subst hL
    intro k h
    simp only [List.length_cons, List.length_nil] at h
    match k, h with
    | 0, _ => exact v1
    | 1, _ => exact v2
    | 2, _ => exact v3
    | 3, _ => exact v4
    | 4, _ => exact v6
    | k + 5, h => exact absurd h (by omega)
  have hl : L.length = 5 := by rw [hL]; rfl
  have hr : ([pcR x1, pcR x2, pcR x3, pcR x4, pcR x6] : List (List AV)) = L.map pcR := by rw [hL]; rfl
  refine loopM ok mixed (A := A18) [3, 7, 11] [0, 4] (S := { k : Nat // k ≤ 5 })
    (fr := fun s => frOf 0 117 [(3, .optr (.s 0) e0 3 0 0), (7, .oslc (.s 4) ep 3 0 5 false), (11, .int .i64 (s.1 : Int))])
    (h := fun s => ⟨[.vec e0 [pcR p], .hole, .hole, .hole, .vec ep (L.map pcR)], []⟩) (μ := fun s => 5 - s.1) ⟨0, by omega⟩ ?_ ?_ ?_
  · exact rfl
  · rw [← hr]; exact rfl
  clear hr hL
  rintro ⟨k, hk⟩
  show aexR _ _ _ (frOf 0 117 [(3, .optr (.s 0) e0 3 0 0), (7, .oslc (.s 4) ep 3 0 5 false), (11, .int .i64 (k : Int))]) ⟨[.vec e0 [pcR p], .hole, .hole, .hole, .vec ep (L.map pcR)], []⟩ _
  (conv => whnf)
  refine ifB (fun g1 => ?_) (fun g1 => ?_)
  · simp only [decide_eq_true_eq] at g1
    have hlt : k < L.length := by omega
    have hv := hV k hlt
    obtain ⟨q, hq⟩ : ∃ q, L[k] = q := ⟨_, rfl⟩
    have hm := mapR (f := pcR) hlt
    rw [hq] at hm hv
    have w1 := hv.ck
    have w2 := hv.sm
    (repeat' (first | exact rfl | ((conv => whnf); first | refine ⟨_, w1, ?_⟩ | refine ⟨_, w2, ?_⟩ | refine optS hm ?_ | exact rfl | refine ⟨by kernel_rfl, ?_⟩ | exact ⟨rfl, rfl⟩ | refine ⟨rfl, ?_⟩ | refine ⟨by (first | omega | (simp (disch := omega) only [wrapI]; omega) | (simp (disch := omega) only [wrapI]; simp; omega) | (simp; omega)), ?_⟩ | (intro ep) | fail)))
    (conv => whnf)
    refine back_of ⟨k + 1, by omega⟩ ⟨by (first | exact rfl | (simp (disch := omega) only [wrapI]; exact rfl)), rfl, by simp only; omega⟩
  · (repeat' (first | exact rfl | ((conv => whnf); first | refine ⟨_, works_spec, ?_⟩ | exact rfl | refine ⟨by kernel_rfl, ?_⟩ | exact ⟨rfl, rfl⟩ | refine ⟨rfl, ?_⟩ | refine ⟨by (first | omega | (simp (disch := omega) only [wrapI]; omega) | (simp (disch := omega) only [wrapI]; simp; omega) | (simp; omega)), ?_⟩ | (intro ep) | fail)))

set_option maxHeartbeats 16000000 in
set_option maxRecDepth 100000 in
theorem valid_00 (p : Pc) (n m : Int) (b1 : PRet C.P 51 [pcA p] (.bool false)) (c1 : PRet C.P 21 [pcA p] (pcA p)) (k0 : PRet C.P 23 [pcA p] (.int .i64 0)) (x1 x2 x3 x4 : Pc) (e5 : Int) (n5 : e5 ≠ 0) (e6 : Int) (n6 : e6 ≠ 0)
    (a1 : PRet C.P 54 [pcA p] (.tup [pcA x1, .int .i64 0])) (a2 : PRet C.P 56 [pcA p] (.tup [pcA x2, .int .i64 0])) (a3 : PRet C.P 58 [pcA p] (.tup [pcA x3, .int .i64 0])) (a4 : PRet C.P 60 [pcA p] (.tup [pcA x4, .int .i64 0]))
    (a5 : PRet C.P 19 [pcA p, .int .i64 n] (.tup [zeroA, .int .i64 e5])) (a6 : PRet C.P 49 [pcA p, .int .i64 n, .int .i64 m] (.tup [zeroA, .int .i64 e6])) (v1 : Vld p x1) (v2 : Vld p x2) (v3 : Vld p x3) (v4 : Vld p x4) :
    ACalls C.P 18 [pcA p, .int .i64 n, .int .i64 m] Heap.nil fun r _ => r = .bool true := by
  refine fn_of ok mixed (A := A18) 5 Try.func18 rfl ?_
  (conv => whnf)
  intro e0
  (repeat' (first | exact rfl | ((conv => whnf); first | refine ⟨_, b1, ?_⟩ | refine ⟨_, c1, ?_⟩ | refine ⟨_, k0, ?_⟩ | refine ⟨_, a1, ?_⟩ | refine ⟨_, a2, ?_⟩ | refine ⟨_, a3, ?_⟩ | refine ⟨_, a4, ?_⟩ | refine ⟨_, a5, ?_⟩ | refine ⟨_, a6, ?_⟩ | refine ⟨_, works_spec, ?_⟩ | exact rfl | refine ⟨by kernel_rfl, ?_⟩ | exact ⟨rfl, rfl⟩ | refine ⟨rfl, ?_⟩ | refine ⟨by (first | omega | (simp (disch := omega) only [wrapI]; omega) | (simp (disch := omega) only [wrapI]; simp; omega) | (simp; omega)), ?_⟩ | (intro ep) | refine ⟨of_decide_eq_true (by kernel_rfl), ?_⟩ | fail)))
  (conv => whnf)
  refine loopU ok mixed (A := A18) 8 ?_
  (repeat' (first | exact rfl | ((conv => whnf); first | refine ⟨_, b1, ?_⟩ | refine ⟨_, c1, ?_⟩ | refine ⟨_, k0, ?_⟩ | refine ⟨_, a1, ?_⟩ | refine ⟨_, a2, ?_⟩ | refine ⟨_, a3, ?_⟩ | refine ⟨_, a4, ?_⟩ | refine ⟨_, a5, ?_⟩ | refine ⟨_, a6, ?_⟩ | refine ⟨_, works_spec, ?_⟩ | exact rfl | refine ⟨by kernel_rfl, ?_⟩ | exact ⟨rfl, rfl⟩ | refine ⟨rfl, ?_⟩ | refine ⟨by (first | omega | (simp (disch := omega) only [wrapI]; omega) | (simp (disch := omega) only [wrapI]; simp; omega) | (simp; omega)), ?_⟩ | (intro ep) | refine ⟨of_decide_eq_true (by kernel_rfl), ?_⟩ | (refine ifB (fun hb => ?_) (fun hb => ?_) <;> (try (exfalso; simp only [beq_iff_eq, beq_eq_false_iff_ne] at hb; omega))) | fail)))
  all_goals (conv => whnf)
  obtain ⟨L, hL⟩ : ∃ L : List Pc, L = [x1, x2, x3, x4] := ⟨_, rfl⟩
  have hV : ∀ k (h : k < L.length), Vld p L[k] := by
    subst hL
    intro k h
    simp only [List.length_cons, List.length_nil] at h
    match k, h with
    | 0, _ => exact v1
    | 1, _ => exact v2
    | 2, _ => exact v3
    | 3, _ => exact v4
    | k + 4, h => exact absurd h (by omega)
  have hl : L.length = 4 := by rw [hL]; rfl
  have hr : ([pcR x1, pcR x2, pcR x3, pcR x4] : List (List AV)) = L.map pcR := by rw [hL]; rfl
  refine loopM ok mixed (A := A18) [3, 7, 11] [0, 4] (S := { k : Nat // k ≤ 4 })
    (fr := fun s => frOf 0 117 [(3, .optr (.s 0) e0 3 0 0), (7, .oslc (.s 4) ep 3 0 4 false), (11, .int .i64 (s.1 : Int))])
    (h := fun s => ⟨[.vec e0 [pcR p], .hole, .hole, .hole, .vec ep (L.map pcR)], []⟩) (μ := fun s => 4 - s.1) ⟨0, by omega⟩ ?_ ?_ ?_
  · exact rfl
  · rw [← hr]; exact rfl
  clear hr hL
  rintro ⟨k, hk⟩
  show aexR _ _ _ (frOf 0 117 [(3, .optr (.s 0) e0 3 0 0), (7, .oslc (.s 4) ep 3 0 4 false), (11, .int .i64 (k : Int))]) ⟨[.vec e0 [pcR p], .hole, .hole, .hole, .vec ep (L.map pcR)], []⟩ _
  (conv => whnf)
  refine ifB (fun g1 => ?_) (fun g1 => ?_)
  · simp only [decide_eq_true_eq] at g1
    have hlt : k < L.length := by omega
    have hv := hV k hlt
    obtain ⟨q, hq⟩ : ∃ q, L[k] = q := ⟨_, rfl⟩
    have hm := mapR (f := pcR) hlt
    rw [hq] at hm hv
    have w1 := hv.ck
    have w2 := hv.sm
    (repeat' (first | exact rfl | ((conv => whnf); first | refine ⟨_, w1, ?_⟩ | refine ⟨_, w2, ?_⟩ | refine optS hm ?_ | exact rfl | refine ⟨by kernel_rfl, ?_⟩ | exact ⟨rfl, rfl⟩ | refine ⟨rfl, ?_⟩ | refine ⟨by (first | omega | (simp (disch := omega) only [wrapI]; omega) | (simp (disch := omega) only [wrapI]; simp; omega) | (simp; omega)), ?_⟩ | (intro ep) | fail)))
    (conv => whnf)
    refine back_of ⟨k + 1, by omega⟩ ⟨by (first | exact rfl | (simp (disch := omega) only [wrapI]; exact rfl)), rfl, by simp only; omega⟩
  · (repeat' (first | exact rfl | ((conv => whnf); first | refine ⟨_, works_spec, ?_⟩ | exact rfl | refine ⟨by kernel_rfl, ?_⟩ | exact ⟨rfl, rfl⟩ | refine ⟨rfl, ?_⟩ | refine ⟨by (first | omega | (simp (disch := omega) only [wrapI]; omega) | (simp (disch := omega) only [wrapI]; simp; omega) | (simp; omega)), ?_⟩ | (intro ep) | fail)))

set_option maxHeartbeats 4000000 in
set_option maxRecDepth 100000 in
theorem law_valid (p : Pc) (n m : Int) (hp : p.Ok) : ACalls C.P 18 [pcA p, .int .i64 n, .int .i64 m] Heap.nil fun r _ => r = .bool true := by
  have b1 := long_spec p hp
  cases g1 : longB p
  · rw [g1] at b1
    have g2 : bigB p = false := by unfold longB at g1; rw [Bool.or_eq_false_iff] at g1; exact g1.1
    have hs := Pc.Sm.of_big g2
    have c1 := copy_spec p hs
    have k0 := refCheck_spec p hp hs.ev
    by_cases hc : chk p = 0
    · have a1 := plain_spec p hp hs
      have a2 := terse_spec p hp hs
      have a3 := bare_spec p hp hs
      have a4 := join_spec p hp hs
      have a5 := break_spec p hp hs n
      have a6 := cut_spec p hp hs n m
      unfold plnP at a1
      unfold trsP at a2
      unfold bareP at a3
      unfold joinP at a4
      rw [if_neg (fun h => h hc)] at a1 a2 a3 a4
      rw [hc] at k0
      have v1 : Vld p ⟨p.ins, outE plnS sz p.evs⟩ := vld_of hs (Sm_body (p := p) (q := ⟨p.ins, outE plnS sz p.evs⟩) hs rfl (pln_body _).symm) (pln_chk hc) rfl
      have v2 : Vld p ⟨p.ins, outE trsS sz p.evs⟩ := vld_of hs (Sm_body (p := p) (q := ⟨p.ins, outE trsS sz p.evs⟩) hs rfl (trs_body _).symm) (trs_chk hc) rfl
      have v3 : Vld p ⟨p.ins, p.evs.map bareE⟩ := vld_of hs (bare_sm hs) (bare_chk hc) rfl
      have v4 : Vld p ⟨p.ins, joinE (outE plnS sz p.evs)⟩ := vld_of hs (join_sm hs) (joined_chk hc) rfl
      cases hB : brkP p n with
      | ok x5 =>
        rw [hB] at a5
        have v5 : Vld p x5 := vld_of hs (brk_sm hs hB) (brk_chk hB) (brk_ins hB)
        cases hC : cutP p n m with
        | ok x6 =>
          rw [hC] at a6
          have v6 : Vld p x6 := vld_of hs (cut_sm hs hC) (cut_valid hC).1 (cut_valid hC).2
          exact valid_11 p n m b1 c1 k0 _ _ _ _ _ _ a1 a2 a3 a4 a5 a6 v1 v2 v3 v4 v5 v6
        | error e6 =>
          rw [hC] at a6
          exact valid_10 p n m b1 c1 k0 _ _ _ _ _ e6 (cutP_ne hC) a1 a2 a3 a4 a5 a6 v1 v2 v3 v4 v5
      | error e5 =>
        rw [hB] at a5
        cases hC : cutP p n m with
        | ok x6 =>
          rw [hC] at a6
          have v6 : Vld p x6 := vld_of hs (cut_sm hs hC) (cut_valid hC).1 (cut_valid hC).2
          exact valid_01 p n m b1 c1 k0 _ _ _ _ _ e5 (brkP_ne' hB) a1 a2 a3 a4 a5 a6 v1 v2 v3 v4 v6
        | error e6 =>
          rw [hC] at a6
          exact valid_00 p n m b1 c1 k0 _ _ _ _ e5 (brkP_ne' hB) e6 (cutP_ne hC) a1 a2 a3 a4 a5 a6 v1 v2 v3 v4
    · refine fn_of ok mixed (A := A18) 5 Try.func18 rfl ?_
      (repeat' (first | exact rfl | ((conv => whnf); first | refine ⟨_, b1, ?_⟩ | refine ⟨_, k0, ?_⟩ | refine ⟨_, works_spec, ?_⟩ | exact rfl | refine ⟨by kernel_rfl, ?_⟩ | exact ⟨rfl, rfl⟩ | refine ⟨rfl, ?_⟩ | refine ⟨by (first | omega | (simp (disch := omega) only [wrapI]; omega) | (simp (disch := omega) only [wrapI]; simp; omega) | (simp; omega)), ?_⟩ | (intro ep) | (refine ifB (fun hb => ?_) (fun hb => ?_) <;> (try (exfalso; simp only [bne_iff_ne, bne_eq_false_iff_eq] at hb; exact hc hb))) | fail)))
  · rw [g1] at b1
    refine fn_of ok mixed (A := A18) 5 Try.func18 rfl ?_
    (repeat' (first | exact rfl | ((conv => whnf); first | refine ⟨_, b1, ?_⟩ | refine ⟨_, works_spec, ?_⟩ | exact rfl | refine ⟨by kernel_rfl, ?_⟩ | exact ⟨rfl, rfl⟩ | refine ⟨rfl, ?_⟩ | refine ⟨by (first | omega | (simp (disch := omega) only [wrapI]; omega) | (simp (disch := omega) only [wrapI]; simp; omega) | (simp; omega)), ?_⟩ | (intro ep) | (refine ifB (fun hb => ?_) (fun hb => ?_) <;> (try simp only [decide_eq_true_eq, decide_eq_false_iff_not, beq_iff_eq, beq_eq_false_iff_ne, bne_iff_ne, bne_eq_false_iff_eq, ne_eq, not_false_eq_true, not_true_eq_false, Bool.not_eq_true, Bool.not_eq_true', Bool.not_eq_false', Int.not_lt, Int.not_le] at hb) <;> (try simp (disch := omega) only [wrapI] at hb) <;> (try (exfalso; omega))) | fail)))

end Go.Ab.V
