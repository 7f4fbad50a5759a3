/-
  What is proved here serves the law's text: each part says its own claim and its conditions. No condition is left open.
-/
import Derived.Test.YtchkiolagohnlaaGreatJQ
import Derived.Test.YtchkiolagohnlaaGreatKF
set_option linter.unusedSimpArgs false
set_option linter.unusedVariables false

/-
  The document's parts and pieces: what an event becomes. No condition but the machine's bounds on lengths.
-/
namespace Go.Ab.V
open Go.Proofs

theorem mod_in {B x y t : Nat} (h0 : 0 < B) (h1 : x < t) (h2 : t < y) (h3 : y ≤ (x / B + 1) * B) : t % B ≠ 0 := by
  intro h
  have e1 := Nat.div_add_mod t B
  have e2 := Nat.div_add_mod x B
  have e3 := Nat.mod_lt x h0
  rw [h, Nat.add_zero] at e1
  rw [Nat.add_mul, Nat.one_mul, Nat.mul_comm] at h3
  have a1 : B * (x / B) < B * (t / B) := by omega
  have a2 : x / B < t / B := Nat.lt_of_mul_lt_mul_left a1
  have a3 : B * (x / B + 1) ≤ B * (t / B) := Nat.mul_le_mul_left B a2
  rw [Nat.mul_add, Nat.mul_one] at a3
  omega
/-- the signs of a stretch last from its beginning to its end -/
theorem segS_sum {e : Evt} {a b x y : Nat} {l : List Sgn} (h : segS e.sg a b x y = some l) (hx : x < y) (hb : b = a + tkn e) (ht : 0 < tkE e) : sumT l = y - x ∧ ∀ s ∈ l, 0 < s.tk := by
  unfold segS at h
  split at h
  · rename_i hc
    cases h
    refine ⟨?_, fun s hs => ?_⟩
    · show e.sg.tk.toNat + 0 = y - x
      have : e.sg.tk.toNat = tkn e := rfl
      omega
    · obtain rfl := List.mem_singleton.1 hs
      exact ht
  · split at h
    · cases h
    · cases h
      exact ⟨sgsN_sum (by omega), fun s hs => by have := sgsN_pos (n := y - x) (by omega) s hs; omega⟩

end Go.Ab.V

/-
  The document's Forces and Times of a piece in memory. No condition but the machine's bounds on lengths.
-/
namespace Go.Ab.V
open Go.Proofs

end Go.Ab.V

/-
  The document's Break. No condition but the machine's bounds on lengths.
-/
namespace Go.Ab.V
open Go.Proofs

/-- the ticks of some events -/
def sumE : List Evt → Nat
  | [] => 0
  | e :: r => tkn e + sumE r
theorem sumE_app : ∀ l m, sumE (l ++ m) = sumE l + sumE m
  | [], m => by simp [sumE]
  | a :: l, m => by simp only [List.cons_append, sumE, sumE_app l m]; omega
def tmN (P : List Evt) (i : Nat) : Nat := sumE (P.take i)
theorem tmN_succ {P : List Evt} {i : Nat} (h : i < P.length) : tmN P (i + 1) = tmN P i + tkn P[i] := by
  unfold tmN
  rw [List.take_add_one, List.getElem?_eq_getElem h, sumE_app]
  simp [sumE]
end Go.Ab.V

/-
  The law PieceBreaks. No condition.
-/
namespace Go.Ab.V
open Go.Proofs

theorem brkF_stops {bar : Nat} {e : Evt} {a b : Nat} (hb : 0 < bar) : ∀ (n x : Nat) (g : List Evt), b - x ≤ n → brkF bar e a b x = some g → ∀ f ∈ g, f.stops.length ≤ e.stops.length
  | n, x, g, hn, h => by
    by_cases hx : x < b
    · cases hs : segS e.sg a b x (nxtB bar x b) with
      | none => rw [brkF_none hx hs] at h; cases h
      | some l =>
        rw [brkF_some hb hx hs, Option.map_eq_some_iff] at h
        obtain ⟨g', h1, rfl⟩ := h
        have h2 := nxtB_gt hb hx
        intro f hf
        rcases List.mem_append.1 hf with hf | hf
        · obtain ⟨j, hj, rfl⟩ := List.getElem_of_mem hf
          simp only [evsP, List.getElem_mapIdx, evP]
          split <;> simp
        · match n, hn with
          | 0, hn => omega
          | n + 1, hn => exact brkF_stops hb n _ g' (by omega) h1 f hf
    · rw [brkF_end (by omega)] at h
      cases h
      intro f hf
      cases hf
theorem brkL_stops {bar : Nat} (hb : 0 < bar) : ∀ {l : List Evt} {a : Nat} {G : List (List Evt)}, brkL bar a l = some G → ∀ g ∈ G, ∀ f ∈ g, ∃ e ∈ l, f.stops.length ≤ e.stops.length
  | [], _, G, h => by
    simp only [brkL, Option.some.injEq] at h
    subst h
    intro g hg
    cases hg
  | e :: r, a, G, h => by
    simp only [brkL] at h
    split at h
    · cases h
    · rename_i m hm
      rw [Option.map_eq_some_iff] at h
      obtain ⟨G', h1, rfl⟩ := h
      intro g hg f hf
      rcases List.mem_cons.1 hg with rfl | hg
      · exact ⟨e, List.mem_cons_self .., brkF_stops hb _ _ _ (Nat.le_refl _) hm f hf⟩
      · obtain ⟨x, hx, h2⟩ := brkL_stops hb h1 g hg f hf
        exact ⟨x, List.mem_cons_of_mem _ hx, h2⟩
theorem brkO_mem {F : List Nat} : ∀ {G : List (List Evt)} {i : Nat}, ∀ e ∈ brkO F i G, ∃ g ∈ G, ∃ f ∈ g, e.stops.length = f.stops.length
  | [], _, e, h => by cases h
  | g :: G, i, e, h => by
    rcases List.mem_append.1 (show e ∈ brkG F i g ++ brkO F (i + 1) G from h) with h | h
    · match g, h with
      | f :: t, h =>
        rcases List.mem_cons.1 (show e ∈ evB F i f :: t from h) with rfl | h
        · exact ⟨f :: t, List.mem_cons_self .., f, List.mem_cons_self .., by simp [evB, evS]⟩
        · exact ⟨f :: t, List.mem_cons_self .., e, List.mem_cons_of_mem _ h, rfl⟩
    · obtain ⟨g', hg, f, hf, h2⟩ := brkO_mem e h
      exact ⟨g', List.mem_cons_of_mem _ hg, f, hf, h2⟩
/-- what a broken piece is -/
theorem brk_ok {p q : Pc} {bar : Int} (h : brkP p bar = .ok q) : chk p = 0 ∧ 1 ≤ bar ∧ bar ≤ 4608 ∧ ∃ G, brkL bar.toNat 0 (outE plnS sz p.evs) = some G ∧ G.flatten.length ≤ 400 ∧ badL (fstL 0 G) 0 (outE plnS sz p.evs) = false ∧ q = ⟨p.ins, brkO (fstL 0 G) 0 G⟩ := by
  unfold brkP at h
  split at h
  · cases h
  · rename_i hc
    split at h
    · cases h
    · rename_i hb
      unfold brkQ at h
      split at h
      · cases h
      · rename_i G hG
        split at h
        · cases h
        · rename_i hl
          unfold brkT at h
          split at h
          · cases h
          · rename_i hbad
            cases h
            exact ⟨by omega, by omega, by omega, G, hG, by omega, by simpa using hbad, rfl⟩
theorem brk_sm {p q : Pc} {bar : Int} (hs : p.Sm) (h : brkP p bar = .ok q) : q.Sm := by
  obtain ⟨hc, hb1, hb2, G, hG, hl, hbad, rfl⟩ := brk_ok h
  have hP : Pc.Sm ⟨p.ins, outE plnS sz p.evs⟩ := Sm_body (p := p) (q := ⟨p.ins, outE plnS sz p.evs⟩) hs rfl (pln_body _).symm
  refine ⟨hs.cs, hs.st, by simp only [brkO_len]; omega, fun e he => ?_⟩
  obtain ⟨g, hg, f, hf, h2⟩ := brkO_mem e he
  obtain ⟨x, hx, h3⟩ := brkL_stops (by omega) hG g hg f hf
  have := hP.sp x hx
  omega

end Go.Ab.V

/-
  What Break makes of an event, part by part. Plain Lean. No condition.
-/
namespace Go.Ab.V
open Go.Proofs

/-- the parts of an event that lasts from a to b, from x on -/
inductive Parts (bar : Nat) (e : Evt) (a b : Nat) : Nat → List Evt → Prop
  | done : Parts bar e a b b []
  | step {x : Nat} {f : Evt} {g : List Evt} (hx : x < b) (ht : 0 < tkE f) (hb : x + tkn f ≤ b) (hm : x + tkn f ≤ (x / bar + 1) * bar) (hbar : f.bar = decide (0 < x ∧ x % bar = 0))
      (htie : f.tie = if x = a then e.tie else !restE e) (hst : f.stops = if x = a then e.stops else []) (h : Parts bar e a b (x + tkn f) g) : Parts bar e a b x (f :: g)

theorem parts_seg {bar : Nat} {e : Evt} {a b x y : Nat} (h0 : 0 < bar) (hax : a ≤ x) (hyb : y ≤ b) (hym : y ≤ (x / bar + 1) * bar) {g : List Evt} (hg : Parts bar e a b y g) :
    ∀ (l : List Sgn) (k t : Nat), (∀ s ∈ l, 0 < s.tk) → t + sumT l = y → x ≤ t → (k = 0 ↔ t = x) → Parts bar e a b t (l.mapIdx (fun j s => evP bar e a x (k + j) s) ++ g)
  | [], k, t, _, hs, _, _ => by
    simp only [sumT, Nat.add_zero] at hs
    subst hs
    exact hg
  | s :: l, k, t, hp, hs, hxt, hk => by
    have hp0 := hp s (List.mem_cons_self ..)
    simp only [sumT] at hs
    have ih := parts_seg h0 hax hyb hym hg l (k + 1) (t + s.tk.toNat) (fun z hz => hp z (List.mem_cons_of_mem _ hz)) (by omega) (by omega) (by omega)
    rw [List.mapIdx_cons, List.cons_append]
    have htk : tkE (evP bar e a x (k + 0) s) = s.tk := rfl
    have htn : tkn (evP bar e a x (k + 0) s) = s.tk.toNat := rfl
    have hq : t / bar = x / bar ∨ t = y := by
      rcases Nat.lt_or_ge t y with h | h
      · left
        have e2 := Nat.div_add_mod x bar
        have e3 := Nat.mod_lt x h0
        apply Nat.le_antisymm
        · have : t < (x / bar + 1) * bar := by omega
          rw [Nat.mul_comm] at this
          exact Nat.lt_succ_iff.1 (Nat.div_lt_of_lt_mul this)
        · exact Nat.div_le_div_right hxt
      · exact .inr (by omega)
    refine .step (by omega) (by rw [htk]; exact hp0) (by rw [htn]; omega) ?_ ?_ ?_ ?_ ?_
    · rw [htn]
      rcases hq with h | h
      · rw [h]; omega
      · omega
    · show decide (k + 0 = 0 ∧ 0 < x ∧ x % bar = 0) = _
      rw [decide_eq_decide, Nat.add_zero]
      by_cases hk0 : k = 0
      · have := hk.1 hk0
        subst this
        simp [hk0]
      · have htx : x < t := by
          rcases Nat.lt_or_ge x t with h | h
          · exact h
          · exact absurd (hk.2 (by omega)) hk0
        constructor
        · intro h; exact absurd h.1 hk0
        · rintro ⟨h1, h2⟩
          rcases Nat.lt_or_ge t y with h | h
          · exact absurd h2 (mod_in h0 htx h hym)
          · omega
    · show (if x = a ∧ k + 0 = 0 then e.tie else !restE e) = _
      by_cases hk0 : k = 0
      · have := hk.1 hk0
        subst this
        simp [hk0]
      · have htx : x < t := by
          rcases Nat.lt_or_ge x t with h | h
          · exact h
          · exact absurd (hk.2 (by omega)) hk0
        rw [if_neg (by omega), if_neg (by omega)]
    · show (if x = a ∧ k + 0 = 0 then e.stops else []) = _
      by_cases hk0 : k = 0
      · have := hk.1 hk0
        subst this
        simp [hk0]
      · have htx : x < t := by
          rcases Nat.lt_or_ge x t with h | h
          · exact h
          · exact absurd (hk.2 (by omega)) hk0
        rw [if_neg (by omega), if_neg (by omega)]
    · rw [htn]
      have e1 : (fun (j : Nat) (s : Sgn) => evP bar e a x (k + (j + 1)) s) = fun j s => evP bar e a x (k + 1 + j) s := by
        funext j s
        rw [show k + (j + 1) = k + 1 + j by omega]
      rw [e1]
      exact ih
theorem brkF_parts {bar : Nat} {e : Evt} {a b : Nat} (h0 : 0 < bar) (hab : b = a + tkn e) (ht : 0 < tkE e) : ∀ (n x : Nat) (g : List Evt), b - x ≤ n → a ≤ x → x ≤ b → brkF bar e a b x = some g → Parts bar e a b x g
  | n, x, g, hn, hax, hxb, h => by
    by_cases hx : x < b
    · cases hs : segS e.sg a b x (nxtB bar x b) with
      | none => rw [brkF_none hx hs] at h; cases h
      | some l =>
        rw [brkF_some h0 hx hs, Option.map_eq_some_iff] at h
        obtain ⟨g', h1, rfl⟩ := h
        have h2 := nxtB_gt h0 hx
        obtain ⟨s1, s2⟩ := segS_sum hs h2.1 hab ht
        match n, hn with
        | 0, hn => omega
        | n + 1, hn =>
          have ih := brkF_parts h0 hab ht n _ g' (by omega) (by omega) h2.2.1 h1
          have := parts_seg (x := x) h0 hax h2.2.1 h2.2.2 ih l 0 x s2 (by omega) (Nat.le_refl _) (by simp)
          simp only [Nat.zero_add] at this
          exact this
    · rw [brkF_end (by omega)] at h
      cases h
      obtain rfl : x = b := by omega
      exact .done
theorem brkE_parts {bar : Nat} {e : Evt} {a : Nat} {g : List Evt} (h0 : 0 < bar) (ht : 0 < tkE e) (h : brkE bar e a = some g) : Parts bar e a (a + tkn e) a g :=
  brkF_parts h0 rfl ht _ _ _ (Nat.le_refl _) (Nat.le_refl _) (by omega) h

end Go.Ab.V

/-
  A broken piece is valid. Plain Lean. No condition.
-/
namespace Go.Ab.V
open Go.Proofs

/-! ### validity, event by event from the end on -/
structure EvOk (i : Ins) (e : Evt) (r : List Evt) : Prop where
  rt : right e.v e.d e.t = true
  ti : ¬ (e.tie = true ∧ 0 < e.stops.length)
  st : StpsOk i (fun c => (longL c 15 r : Nat)) 0 e.stops
def SufOk (i : Ins) : List Evt → Prop
  | [] => True
  | e :: r => EvOk i e r ∧ SufOk i r
theorem SufOk.at {i : Ins} : ∀ {l : List Evt} {j : Nat}, SufOk i l → ∀ h : j < l.length, EvOk i l[j] (l.drop (j + 1))
  | e :: r, 0, h, _ => by simpa using h.1
  | e :: r, j + 1, h, hj => by simpa using SufOk.at (l := r) (j := j) h.2 (by simpa using hj)
theorem SufOk.of {i : Ins} : ∀ {l : List Evt}, (∀ j (h : j < l.length), EvOk i l[j] (l.drop (j + 1))) → SufOk i l
  | [], _ => trivial
  | e :: r, h => ⟨h 0 (by simp), SufOk.of fun j hj => h (j + 1) (by simpa using hj)⟩
theorem SufOk.app {i : Ins} : ∀ {l m : List Evt}, SufOk i (l ++ m) → SufOk i m
  | [], _, h => h
  | _ :: l, _, h => SufOk.app (l := l) h.2
theorem stps_eq {i : Ins} {lg lg' : Int → Int} (h : ∀ c, lg c = lg' c) {l : List Stp} {last : Int} : StpsOk i lg last l ↔ StpsOk i lg' last l := by
  rw [show lg = lg' from funext h]
theorem chk_suf {p : Pc} : chk p = 0 ↔ chkIn p.ins = 0 ∧ p.evs.length ≤ 400 ∧ SufOk p.ins p.evs ∧ ∀ h : 0 < p.evs.length, p.evs[0].v ≠ 0 ∧ p.evs[0].tie = false := by
  rw [chk_iff]
  constructor
  · rintro ⟨h1, h2, h3⟩
    refine ⟨h1, h2, SufOk.of fun j hj => ?_, fun h => ?_⟩
    · obtain ⟨q1, q2, q3, q4⟩ := chkEv_iff.1 (h3 j hj)
      exact ⟨q1, fun x => q3 ⟨x.1, .inr x.2⟩, (stps_eq fun c => longest_at hj c).1 q4⟩
    · obtain ⟨q1, q2, q3, q4⟩ := chkEv_iff.1 (h3 0 h)
      refine ⟨fun x => q2 ⟨rfl, x⟩, ?_⟩
      cases ht : (p.evs[0]).tie with
      | true => exact absurd ⟨ht, .inl rfl⟩ q3
      | false => rfl
  · rintro ⟨h1, h2, h3, h4⟩
    refine ⟨h1, h2, fun j hj => chkEv_iff.2 ?_⟩
    obtain ⟨q1, q2, q3⟩ := h3.at hj
    refine ⟨q1, ?_, ?_, (stps_eq fun c => longest_at hj c).2 q3⟩
    · rintro ⟨x, y⟩
      have hj0 : j = 0 := by omega
      subst hj0
      exact (h4 hj).1 y
    · rintro ⟨x, y⟩
      rcases y with y | y
      · have hj0 : j = 0 := by omega
        subst hj0
        have := (h4 hj).2
        rw [this] at x
        cases x
      · exact q2 ⟨x, y⟩

/-! ### what a hold passes -/
def okC (c : Int) (e : Evt) : Prop := restE e = false ∧ hasC e.stops c = false
theorem longL_ge {c : Int} : ∀ {k n : Nat} {l : List Evt}, k ≤ n → k ≤ l.length → (∀ j (h : j < l.length), j < k → okC c l[j]) → k ≤ longL c n l
  | 0, _, _, _, _, _ => Nat.zero_le _
  | k + 1, n + 1, e :: r, h1, h2, h3 => by
    have h0 := h3 0 (by simp) (by omega)
    simp only [List.getElem_cons_zero] at h0
    rw [longL, if_neg (by rw [h0.1, h0.2]; decide)]
    have := longL_ge (c := c) (k := k) (n := n) (l := r) (by omega) (by simpa using h2) fun j hj hk => h3 (j + 1) (by simpa using hj) (by omega)
    omega
  | k + 1, 0, _, h1, _, _ => by omega
  | k + 1, _ + 1, [], _, h2, _ => by simp at h2
theorem longL_ok {c : Int} : ∀ {n : Nat} {l : List Evt} {j : Nat} (h : j < l.length), j < longL c n l → okC c l[j]
  | 0, _, _, _, h2 => by simp [longL] at h2
  | n + 1, e :: r, j, h, h2 => by
    rw [longL] at h2
    split at h2
    · omega
    · rename_i h0
      have h0 : restE e = false ∧ hasC e.stops c = false := by
        rw [Bool.not_eq_true, Bool.or_eq_false_iff] at h0
        exact h0
      cases j with
      | zero => exact h0
      | succ j => exact longL_ok (n := n) (l := r) (j := j) (by simpa using h) (by omega)
theorem hasC_map {f : Stp → Stp} (hf : ∀ s, (f s).c = s.c) (l : List Stp) (c : Int) : hasC (l.map f) c = hasC l c := by
  unfold hasC
  rw [List.any_map]
  congr 1
  funext s
  show ((f s).c == c) = _
  rw [hf]
theorem holdB_c (F : List Nat) (i : Nat) (s : Stp) : (holdB F i s).c = s.c := by unfold holdB; split <;> rfl
theorem okC_evB {c : Int} {F : List Nat} {i : Nat} {e : Evt} (h : okC c e) : okC c (evB F i e) := by
  refine ⟨?_, ?_⟩
  · rw [← h.1]; simp [restE, evB, evS]
  · rw [← h.2]; exact hasC_map (holdB_c F i) _ _
theorem okC_first {c : Int} {e f : Evt} (h1 : f.stops = e.stops) (h2 : f.tie = e.tie) (h : okC c e) : okC c f := by
  unfold okC restE at *
  rw [h1, h2]
  exact h
theorem okC_later {c : Int} {e f : Evt} (h1 : f.stops = []) (h2 : f.tie = !restE e) (h : restE e = false) : okC c f := by
  unfold okC
  rw [h1]
  refine ⟨?_, rfl⟩
  unfold restE
  rw [h1, h2, h]
  rfl
theorem parts_later {bar : Nat} {e : Evt} {a b : Nat} (hab : a < b) : ∀ {x : Nat} {g : List Evt}, Parts bar e a b x g → a < x → ∀ f ∈ g, f.stops = [] ∧ f.tie = !restE e
  | _, _, .done, _, f, hf => by cases hf
  | x, _, .step hx ht hb hm hbar htie hst h, hax, f, hf => by
    rcases List.mem_cons.1 hf with rfl | hf
    · rw [if_neg (by omega)] at htie hst
      exact ⟨hst, htie⟩
    · exact parts_later hab h (by omega) f hf
/-- a group is its first event, and ties behind it -/
theorem parts_first {bar : Nat} {e : Evt} {a b : Nat} (hab : a < b) {g : List Evt} (h : Parts bar e a b a g) : ∃ f t, g = f :: t ∧ f.stops = e.stops ∧ f.tie = e.tie ∧ ∀ x ∈ t, x.stops = [] ∧ x.tie = !restE e := by
  cases h with
  | done => omega
  | step hx ht hb hm hbar htie hst h =>
    rename_i f g
    rw [if_pos rfl] at htie hst
    have ht2 : 0 < tkn f := by unfold tkn; omega
    exact ⟨f, g, rfl, hst, htie, parts_later hab h (by omega)⟩
theorem parts_right {bar : Nat} {e : Evt} {a b : Nat} : ∀ {x : Nat} {g : List Evt}, Parts bar e a b x g → ∀ f ∈ g, right f.v f.d f.t = true ∧ f.v ≠ 0
  | _, _, .done, f, hf => by cases hf
  | x, _, .step hx ht hb hm hbar htie hst h, f, hf => by
    rcases List.mem_cons.1 hf with rfl | hf
    · have h1 : 0 < ticks f.v f.d f.t := ht
      rw [ticks_pos] at h1
      refine ⟨?_, by omega⟩
      unfold right
      rw [if_neg (by omega)]
      obtain ⟨q1, q2, q3⟩ := h1
      simp [q1, q2, q3]
    · exact parts_right h f hf
/-- what the groups of a list of events are -/
inductive Grps (bar : Nat) : Nat → List Evt → List (List Evt) → Prop
  | nil {a : Nat} : Grps bar a [] []
  | cons {a : Nat} {e : Evt} {r : List Evt} {g : List Evt} {G : List (List Evt)} (h : Parts bar e a (a + tkn e) a g) (hG : Grps bar (a + tkn e) r G) : Grps bar a (e :: r) (g :: G)
theorem brkL_grps {bar : Nat} (h0 : 0 < bar) : ∀ {l : List Evt} {a : Nat} {G : List (List Evt)}, (∀ e ∈ l, 0 < tkE e) → brkL bar a l = some G → Grps bar a l G
  | [], _, G, _, h => by
    simp only [brkL, Option.some.injEq] at h
    subst h
    exact .nil
  | e :: r, a, G, ht, h => by
    simp only [brkL] at h
    split at h
    · cases h
    · rename_i m hm
      rw [Option.map_eq_some_iff] at h
      obtain ⟨G', h1, rfl⟩ := h
      exact .cons (brkE_parts h0 (ht e (List.mem_cons_self ..)) hm) (brkL_grps h0 (fun x hx => ht x (List.mem_cons_of_mem _ hx)) h1)
theorem grps_len {bar : Nat} : ∀ {a : Nat} {l : List Evt} {G : List (List Evt)}, Grps bar a l G → G.length = l.length
  | _, _, _, .nil => rfl
  | _, _, _, .cons _ hG => by simp [grps_len hG]
theorem fstL_shift : ∀ (G : List (List Evt)) (h c : Nat), h < G.length → (fstL c G).getD h 0 = c + (fstL 0 G).getD h 0
  | g :: G, 0, c, _ => by simp [fstL]
  | g :: G, h + 1, c, hh => by
    have h2 : h < G.length := by simpa using hh
    simp only [fstL, List.getD_cons_succ, Nat.zero_add]
    rw [fstL_shift G h (c + g.length) h2, fstL_shift G h g.length h2]
    omega
/-- what a hold passes of the groups -/
theorem okC_run {bar : Nat} {c : Int} {F : List Nat} : ∀ {a i : Nat} {l : List Evt} {G : List (List Evt)}, Grps bar a l G → (∀ e ∈ l, 0 < tkn e) → ∀ h (hh : h < l.length), (∀ j (hj : j < l.length), j ≤ h → okC c l[j]) →
    ∀ t, t ≤ (fstL 0 G).getD h 0 → ∃ ht : t < (brkO F i G).length, okC c (brkO F i G)[t]
  | a, i, _, _, .nil, _, h, hh, _ => by simp at hh
  | a, i, e :: r, _, .cons (g := g) (G := G) hp hG, ht, h, hh, hok => by
    have hte := ht e (List.mem_cons_self ..)
    obtain ⟨f, tl, rfl, q1, q2, q3⟩ := parts_first (by omega) hp
    have he : okC c e := hok 0 (by simp) (by omega)
    intro t htt
    have hfst : ∀ t, t < (f :: tl).length → ∃ ht : t < (brkO F i ((f :: tl) :: G)).length, okC c (brkO F i ((f :: tl) :: G))[t] := by
      intro t h2
      have hl : t < (brkG F i (f :: tl)).length := by rw [brkG_len]; exact h2
      refine ⟨by simp only [brkO, List.length_append]; omega, ?_⟩
      have : (brkO F i ((f :: tl) :: G))[t]'(by simp only [brkO, List.length_append]; omega) = (brkG F i (f :: tl))[t] := by simp only [brkO]; rw [List.getElem_append_left hl]
      rw [this]
      cases t with
      | zero => exact okC_evB (okC_first q1 q2 he)
      | succ t =>
        have hm : tl[t]'(by simpa using h2) ∈ tl := List.getElem_mem _
        obtain ⟨u1, u2⟩ := q3 _ hm
        exact okC_later u1 u2 he.1
    cases h with
    | zero =>
      have : t = 0 := by simpa [fstL] using htt
      subst this
      exact hfst 0 (by simp)
    | succ h =>
      rcases Nat.lt_or_ge t (f :: tl).length with h2 | h2
      · exact hfst t h2
      · have hh2 : h < r.length := by simpa using hh
        have e1 : (fstL 0 ((f :: tl) :: G)).getD (h + 1) 0 = (f :: tl).length + (fstL 0 G).getD h 0 := by
          simp only [fstL, List.getD_cons_succ, Nat.zero_add]
          exact fstL_shift G h _ (by rw [grps_len hG]; exact hh2)
        obtain ⟨u1, u2⟩ := okC_run (F := F) (i := i + 1) hG (fun x hx => ht x (List.mem_cons_of_mem _ hx)) h hh2 (fun j hj hjh => hok (j + 1) (by simpa using hj) (by omega)) (t - (f :: tl).length) (by omega)
        have hl : (brkG F i (f :: tl)).length = (f :: tl).length := brkG_len _ _ _
        refine ⟨by simp only [brkO, List.length_append]; omega, ?_⟩
        have : (brkO F i ((f :: tl) :: G))[t]'(by simp only [brkO, List.length_append]; omega) = (brkO F (i + 1) G)[t - (f :: tl).length] := by
          simp only [brkO]
          rw [List.getElem_append_right (by omega)]
          simp only [hl]
        rw [this]
        exact u2
end Go.Ab.V

/-
  A broken piece is valid, the end. Plain Lean. No condition.
-/
namespace Go.Ab.V
open Go.Proofs

theorem suf_app {i : Ins} : ∀ {l m : List Evt}, (∀ f ∈ l, right f.v f.d f.t = true ∧ f.stops = []) → SufOk i m → SufOk i (l ++ m)
  | [], _, _, h => h
  | f :: l, m, hl, h => by
    obtain ⟨h1, h2⟩ := hl f (List.mem_cons_self ..)
    refine ⟨⟨h1, ?_, ?_⟩, suf_app (fun x hx => hl x (List.mem_cons_of_mem _ hx)) h⟩
    · rw [h2]; simp
    · rw [h2]; trivial
theorem stps_holdB {i : Ins} {F : List Nat} {k : Nat} {lg lg' : Int → Int} : ∀ {l : List Stp} {last : Int},
    (∀ s ∈ l, 0 < s.h → s.h ≤ lg s.c → 0 ≤ (holdB F k s).h ∧ (holdB F k s).h ≤ lg' s.c) → (∀ c, 0 ≤ lg' c) → StpsOk i lg last l → StpsOk i lg' last (l.map (holdB F k))
  | [], _, _, _, _ => trivial
  | s :: r, last, hh, h0, ⟨h1, h2⟩ => by
    refine ⟨?_, ?_⟩
    · rw [chkStop_iff] at h1 ⊢
      have q := hh s (List.mem_cons_self ..)
      have q0 := h0 s.c
      unfold holdB at q ⊢
      split
      · rename_i hp
        rw [if_pos hp] at q
        have := q hp (by omega)
        dsimp only at this ⊢
        have := h1.2.2.2.2.2.2 hp
        omega
      · omega
    · rw [holdB_c]
      exact stps_holdB (fun x hx => hh x (List.mem_cons_of_mem _ hx)) h0 h2
theorem brk_suf {bar : Nat} {F : List Nat} {ins : Ins} : ∀ {a i c : Nat} {l : List Evt} {G : List (List Evt)}, Grps bar a l G → (∀ e ∈ l, 0 < tkn e) → SufOk ins l → badL F i l = false →
    (∀ j, j < G.length → F.getD (i + j) 0 = c + (fstL 0 G).getD j 0) → SufOk ins (brkO F i G)
  | _, _, _, _, _, .nil, _, _, _, _ => trivial
  | a, i, c, e :: r, _, .cons (g := g) (G := G) hp hG, ht, hs, hb, hF => by
    have hte := ht e (List.mem_cons_self ..)
    have htr : ∀ x ∈ r, 0 < tkn x := fun x hx => ht x (List.mem_cons_of_mem _ hx)
    have hgl := grps_len hG
    have hrt := parts_right hp
    obtain ⟨f, tl, rfl, q1, q2, q3⟩ := parts_first (by omega) hp
    unfold badL at hb
    rw [Bool.or_eq_false_iff] at hb
    have hF1 : ∀ j, j < G.length → F.getD (i + 1 + j) 0 = c + (f :: tl).length + (fstL 0 G).getD j 0 := by
      intro j hj
      rw [show i + 1 + j = i + (j + 1) by omega, hF (j + 1) (by simp only [List.length_cons]; omega)]
      simp only [fstL, List.getD_cons_succ, Nat.zero_add]
      rw [fstL_shift G j _ hj]
      omega
    have hF0 : F.getD i 0 = c := by
      have := hF 0 (by simp)
      simpa [fstL] using this
    have ih := brk_suf (c := c + (f :: tl).length) hG htr hs.2 hb.2 hF1
    show SufOk ins (evB F i f :: (tl ++ brkO F (i + 1) G))
    refine ⟨⟨?_, ?_, ?_⟩, suf_app (fun x hx => ⟨(hrt x (List.mem_cons_of_mem _ hx)).1, (q3 x hx).1⟩) ih⟩
    · exact (hrt f (List.mem_cons_self ..)).1
    · have := hs.1.ti
      rw [← q1, ← q2] at this
      simpa [evB, evS] using this
    · show StpsOk ins _ 0 (f.stops.map (holdB F i))
      rw [q1]
      refine stps_holdB ?_ (fun c => by omega) hs.1.st
      intro s hs0 hp0 hlg
      have hbs : longH F i s = false := by
        have := List.any_eq_false.1 hb.1 s hs0
        simpa using this
      unfold longH at hbs
      rw [decide_eq_false_iff_not] at hbs
      unfold holdB at hbs ⊢
      rw [if_pos hp0] at hbs ⊢
      dsimp only at hbs ⊢
      obtain ⟨h, hh⟩ : ∃ h, s.h.toNat = h + 1 := ⟨s.h.toNat - 1, by omega⟩
      have hll := longL_len s.c 15 r
      have hll2 := longL_le s.c 15 r
      have hhr : h < r.length := by omega
      have hgh : h < G.length := by omega
      rw [hh, show i + (h + 1) = i + 1 + h by omega, hF0, hF1 h hgh] at hbs ⊢
      have hre : restE e = false := by
        unfold restE
        have : e.stops.length ≠ 0 := by
          intro h0
          rw [List.length_eq_zero_iff.1 h0] at hs0
          cases hs0
        simp [this]
      have hok : ∀ j (hj : j < r.length), j ≤ h → okC s.c r[j] := fun j hj hjh => longL_ok hj (n := 15) (by omega)
      have hrun := okC_run (F := F) (i := i + 1) hG htr h hhr hok
      simp only [List.length_cons] at hbs ⊢
      obtain ⟨w1, -⟩ := hrun _ (Nat.le_refl _)
      have hge : tl.length + 1 + (fstL 0 G).getD h 0 ≤ longL s.c 15 (tl ++ brkO F (i + 1) G) := by
        refine longL_ge (by omega) (by rw [List.length_append]; omega) fun j hj hk => ?_
        by_cases hjt : j < tl.length
        · rw [List.getElem_append_left hjt]
          obtain ⟨u1, u2⟩ := q3 _ (List.getElem_mem hjt)
          exact okC_later u1 u2 hre
        · rw [List.getElem_append_right (by omega)]
          exact (hrun (j - tl.length) (by omega)).2
      omega
theorem pln_tk {p : Pc} (hc : chk p = 0) : ∀ e ∈ outE plnS sz p.evs, 0 < tkE e := by
  intro e he
  rw [outE_pln] at he
  obtain ⟨i, hi, rfl⟩ := List.getElem_of_mem he
  have hil : i < p.evs.length := by simpa [nfs_len] using hi
  have hin : i < (nfs sz p.evs).length := by rw [nfs_len]; exact hil
  have := nfs_tk p.evs sz right_z (chk_right hc) (fun _ => chk_first hc) _ (List.getElem_mem hin)
  simp only [List.getElem_zipWith]
  exact this
theorem brk_chk {p q : Pc} {bar : Int} (h : brkP p bar = .ok q) : chk q = 0 := by
  obtain ⟨hc, hb1, hb2, G, hG, hl, hbad, rfl⟩ := brk_ok h
  have hP := pln_chk hc
  have hc2 := chk_suf.1 hP
  obtain ⟨h1, h2, h3, h4⟩ := hc2
  have htk : ∀ e ∈ outE plnS sz p.evs, 0 < tkE e := pln_tk hc
  have htn : ∀ e ∈ outE plnS sz p.evs, 0 < tkn e := fun e he => by have := htk e he; unfold tkn; omega
  have hg := brkL_grps (by omega) htk hG
  have hF : ∀ j, j < G.length → (fstL 0 G).getD (0 + j) 0 = 0 + (fstL 0 G).getD j 0 := fun j _ => by simp
  have hS := brk_suf (F := fstL 0 G) (i := 0) (c := 0) hg htn h3 hbad hF
  refine chk_suf.2 ⟨h1, by show (brkO _ _ _).length ≤ 400; rw [brkO_len]; exact hl, hS, ?_⟩
  show ∀ h : 0 < (brkO (fstL 0 G) 0 G).length, _
  obtain ⟨P, hPe⟩ : ∃ P, P = outE plnS sz p.evs := ⟨_, rfl⟩
  rw [← hPe] at hg htn h4
  cases hg with
  | nil => intro h; simp [brkO] at h
  | cons hp hG' =>
    rename_i e r g G'
    have hrt := parts_right hp
    have he := htn e (List.mem_cons_self ..)
    obtain ⟨f, tl, rfl, q1, q2, q3⟩ := parts_first (by omega) hp
    intro h
    refine ⟨(hrt f (List.mem_cons_self ..)).2, ?_⟩
    show f.tie = false
    rw [q2]
    exact (h4 (by simp)).2
end Go.Ab.V
