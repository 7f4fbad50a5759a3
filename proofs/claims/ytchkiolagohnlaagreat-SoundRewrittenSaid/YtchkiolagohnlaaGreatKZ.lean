/-
  What is proved here serves the law's text: each part says its own claim and its conditions. No condition is left open.
-/
import Derived.Test.YtchkiolagohnlaaGreatKY
import Derived.Test.YtchkiolagohnlaaGreatKP
set_option linter.unusedSimpArgs false
set_option linter.unusedVariables false

/-
  What a valid piece is, event by event. Plain Lean. No condition.
-/
namespace Go.Ab.V
open Go.Proofs

theorem chkEvs_iff {p : Pc} : ∀ {l : List Evt} {k : Nat}, chkEvs p k l = 0 ↔ ∀ j (h : j < l.length), chkEv p (k + j) l[j] = 0
  | [], k => by simp [chkEvs]
  | e :: r, k => by
    unfold chkEvs
    constructor
    · intro h j hj
      split at h
      · rename_i h0
        cases j with
        | zero => exact h0
        | succ j =>
          have := (chkEvs_iff.1 h) j (by simpa using hj)
          rw [show k + (j + 1) = k + 1 + j by omega]
          exact this
      · rename_i h0; exact absurd h h0
    · intro h
      have h0 : chkEv p k e = 0 := h 0 (by simp)
      rw [if_pos h0]
      refine chkEvs_iff.2 fun j hj => ?_
      have := h (j + 1) (by simpa using hj)
      rw [show k + 1 + j = k + (j + 1) by omega]
      exact this
theorem chk_iff {p : Pc} : chk p = 0 ↔ chkIn p.ins = 0 ∧ p.evs.length ≤ 400 ∧ ∀ j (h : j < p.evs.length), chkEv p j p.evs[j] = 0 := by
  unfold chk
  constructor
  · intro h
    split at h
    · rename_i h1
      split at h
      · cases h
      · refine ⟨h1, by omega, fun j hj => ?_⟩
        have := chkEvs_iff.1 h j hj
        rwa [Nat.zero_add] at this
    · rename_i h1; exact absurd h h1
  · rintro ⟨h1, h2, h3⟩
    rw [if_pos h1, if_neg (by omega)]
    refine chkEvs_iff.2 fun j hj => ?_
    rw [Nat.zero_add]
    exact h3 j hj
/-- the stops of an event are valid, the greatest holds being lg -/
def StpsOk (i : Ins) (lg : Int → Int) : Int → List Stp → Prop
  | _, [] => True
  | last, s :: r => chkStop i (lg s.c) s last = 0 ∧ StpsOk i lg s.c r
theorem chkStops_iff {p : Pc} {k : Nat} : ∀ {l : List Stp} {last : Int}, chkStops p k last l = 0 ↔ StpsOk p.ins (fun c => longest p.evs k c) last l
  | [], last => by simp [chkStops, StpsOk]
  | s :: r, last => by
    unfold chkStops StpsOk
    constructor
    · intro h
      split at h
      · rename_i h0; exact ⟨h0, chkStops_iff.1 h⟩
      · rename_i h0; exact absurd h h0
    · rintro ⟨h0, h⟩
      rw [if_pos h0]
      exact chkStops_iff.2 h
theorem chkEv_iff {p : Pc} {k : Nat} {e : Evt} : chkEv p k e = 0 ↔ right e.v e.d e.t = true ∧ ¬ (k = 0 ∧ e.v = 0) ∧ ¬ (e.tie = true ∧ (k = 0 ∨ 0 < e.stops.length)) ∧ StpsOk p.ins (fun c => longest p.evs k c) 0 e.stops := by
  unfold chkEv
  constructor
  · intro h
    split at h
    · cases h
    · rename_i h1
      split at h
      · cases h
      · rename_i h2
        refine ⟨?_, fun x => h1 (.inr x), h2, chkStops_iff.1 h⟩
        cases hr : right e.v e.d e.t
        · exact absurd (.inl hr) h1
        · rfl
  · rintro ⟨h1, h2, h3, h4⟩
    rw [if_neg (by rintro (h | h); · rw [h1] at h; cases h
                   · exact h2 h), if_neg h3]
    exact chkStops_iff.2 h4
theorem chkStop_iff {i : Ins} {lg last : Int} {s : Stp} : chkStop i lg s last = 0 ↔ (1 ≤ s.c ∧ s.c ≤ i.cs.length) ∧ (0 ≤ s.f ∧ s.f ≤ fretsOf i s.c) ∧ last < s.c ∧ (0 ≤ s.r ∧ s.r ≤ 3 ∧ 0 ≤ s.g ∧ s.g ≤ 4) ∧ (0 ≤ s.h ∧ s.h ≤ lg ∧ (0 < s.h → s.f ≠ 0)) := by
  unfold chkStop
  constructor
  · intro h
    repeat' (split at h; · cases h)
    omega
  · intro h
    rw [if_neg (by omega), if_neg (by omega), if_neg (by omega), if_neg (by omega), if_neg (by omega)]
theorem longL_len (c : Int) : ∀ (n : Nat) (l : List Evt), longL c n l ≤ l.length
  | 0, _ => by simp [longL]
  | n + 1, [] => by simp [longL]
  | n + 1, e :: r => by
    simp only [longL, List.length_cons]
    split
    · omega
    · have := longL_len c n r; omega
theorem longest_at {l : List Evt} {k : Nat} (h : k < l.length) (c : Int) : longest l k c = (longL c 15 (l.drop (k + 1)) : Nat) := by
  unfold longest
  rw [if_neg (by omega)]
  congr 3
theorem stps_h {i : Ins} {lg : Int → Int} {b : Int} (h : ∀ c, lg c ≤ b) : ∀ {l : List Stp} {last : Int}, StpsOk i lg last l → ∀ s ∈ l, 0 ≤ s.h ∧ s.h ≤ b
  | [], _, _, s, hs => by cases hs
  | a :: r, last, ⟨h1, h2⟩, s, hs => by
    rcases List.mem_cons.1 hs with rfl | hs
    · rw [chkStop_iff] at h1
      have := h s.c
      omega
    · exact stps_h h h2 s hs
theorem chk_holds {p : Pc} (hc : chk p = 0) {k : Nat} (h : k < p.evs.length) : ∀ s ∈ (p.evs[k]).stops, 0 ≤ s.h ∧ k + 1 + s.h.toNat ≤ p.evs.length := by
  intro s hs
  have h1 := (chkEv_iff.1 ((chk_iff.1 hc).2.2 k h)).2.2.2
  have := stps_h (b := ((p.evs.length - (k + 1) : Nat) : Int)) (fun c => by
    rw [longest_at h]
    have := longL_len c 15 (p.evs.drop (k + 1))
    rw [List.length_drop] at this
    omega) h1 s hs
  omega

theorem stps_mem {i : Ins} {lg : Int → Int} : ∀ {l : List Stp} {last : Int}, StpsOk i lg last l → ∀ s ∈ l, (1 ≤ s.c ∧ s.c ≤ i.cs.length) ∧ (0 ≤ s.f ∧ s.f ≤ fretsOf i s.c) ∧ last < s.c ∧ (0 ≤ s.h ∧ s.h ≤ lg s.c ∧ (0 < s.h → s.f ≠ 0))
  | [], _, _, s, hs => by cases hs
  | a :: r, last, ⟨h1, h2⟩, s, hs => by
    rw [chkStop_iff] at h1
    rcases List.mem_cons.1 hs with rfl | hs
    · omega
    · have := stps_mem h2 s hs
      omega
theorem stps_asc {i : Ins} {lg : Int → Int} : ∀ {l : List Stp} {last : Int}, StpsOk i lg last l → l.Pairwise (fun a b => a.c < b.c)
  | [], _, _ => .nil
  | a :: r, last, ⟨h1, h2⟩ => List.pairwise_cons.2 ⟨fun s hs => (stps_mem h2 s hs).2.2.1, stps_asc h2⟩
theorem stps_len {i : Ins} {lg : Int → Int} : ∀ {l : List Stp} {last : Int}, StpsOk i lg last l → last ≤ i.cs.length → (l.length : Int) + last ≤ i.cs.length
  | [], _, _, h => by simpa using h
  | a :: r, last, ⟨h1, h2⟩, h => by
    rw [chkStop_iff] at h1
    have := stps_len h2 (by omega)
    rw [List.length_cons]
    omega
theorem chkCs_iff {steps : List Int} : ∀ {l : List Crs}, chkCs steps l = 0 → ∀ c ∈ l, (0 ≤ c.frets ∧ c.frets ≤ steps.length) ∧ (0 ≤ c.pitch ∧ c.pitch ≤ 127) ∧ highest steps c ≤ 127
  | [], _, c, hc => by cases hc
  | a :: r, h, c, hc => by
    unfold chkCs at h
    repeat' (split at h; · cases h)
    rcases List.mem_cons.1 hc with rfl | hc
    · omega
    · exact chkCs_iff h c hc
theorem chkIn_iff {i : Ins} (h : chkIn i = 0) : (1 ≤ i.cs.length ∧ i.cs.length ≤ 14 ∧ i.steps.length ≤ 18) ∧ chkSteps 0 i.steps = true ∧ ∀ c ∈ i.cs, (0 ≤ c.frets ∧ c.frets ≤ i.steps.length) ∧ (0 ≤ c.pitch ∧ c.pitch ≤ 127) ∧ highest i.steps c ≤ 127 := by
  unfold chkIn at h
  repeat' (split at h; · cases h)
  rename_i h1 h2 h3
  exact ⟨by omega, by simpa using h3, chkCs_iff h⟩

/-- the facts of a valid piece -/
structure Vp (p : Pc) : Prop where
  len : p.evs.length ≤ 400
  cs : 1 ≤ p.ins.cs.length ∧ p.ins.cs.length ≤ 14
  steps : p.ins.steps.length ≤ 18
  chkI : chkIn p.ins = 0
  crs : ∀ c ∈ p.ins.cs, (0 ≤ c.frets ∧ c.frets ≤ p.ins.steps.length) ∧ (0 ≤ c.pitch ∧ c.pitch ≤ 127) ∧ highest p.ins.steps c ≤ 127
  stp : ∀ x ∈ p.ins.steps, 0 < x ∧ x ≤ 127
  sp : ∀ k (h : k < p.evs.length), ∀ s ∈ p.evs[k].stops, (1 ≤ s.c ∧ s.c ≤ p.ins.cs.length) ∧ (0 ≤ s.f ∧ s.f ≤ fretsOf p.ins s.c) ∧ (0 ≤ s.h ∧ s.h ≤ longest p.evs k s.c ∧ (0 < s.h → s.f ≠ 0)) ∧ k + 1 + s.h.toNat ≤ p.evs.length
  asc : ∀ k (h : k < p.evs.length), p.evs[k].stops.Pairwise (fun a b => a.c < b.c)
  sl : ∀ k (h : k < p.evs.length), p.evs[k].stops.length ≤ 14
  tie : ∀ k (h : k < p.evs.length), p.evs[k].tie = true → k ≠ 0 ∧ p.evs[k].stops = []
theorem vp {p : Pc} (hc : chk p = 0) : Vp p := by
  obtain ⟨h1, h2, h3⟩ := chk_iff.1 hc
  obtain ⟨i1, i2, i3⟩ := chkIn_iff h1
  have hs : ∀ k (h : k < p.evs.length), StpsOk p.ins (fun c => longest p.evs k c) 0 p.evs[k].stops := fun k h => (chkEv_iff.1 (h3 k h)).2.2.2
  refine ⟨h2, ⟨i1.1, i1.2.1⟩, i1.2.2, h1, i3, chkSteps_bd _ _ i2, fun k h s hm => ?_, fun k h => stps_asc (hs k h), fun k h => ?_, fun k h ht => ?_⟩
  · have a := stps_mem (hs k h) s hm
    exact ⟨a.1, a.2.1, a.2.2.2, (chk_holds hc h s hm).2⟩
  · have := stps_len (hs k h) (by omega)
    omega
  · have a := (chkEv_iff.1 (h3 k h)).2.2.1
    refine ⟨fun h0 => a ⟨ht, .inl h0⟩, ?_⟩
    cases hx : p.evs[k].stops with
    | nil => rfl
    | cons x r => exact absurd ⟨ht, .inr (by rw [hx]; simp)⟩ a

/-- the time at which an event begins; at the number of events, the end -/
def on (p : Pc) (k : Nat) : Int := (onsets p).getD k 0
theorem frc_pos {e : Evt} {f : Int} (hr : right e.v e.d e.t = true) (h : 0 < f ∨ e.v ≠ 0) (hf : 0 ≤ f ∧ f ≤ 576) : 0 < frc f e ∧ frc f e ≤ 576 := by
  have h1 := right_tk hr
  have h2 := ticks_bd e.v e.d e.t
  unfold frc
  split
  · omega
  · rename_i h3
    have := h1.2 h3
    omega
theorem onsT_asc : ∀ (l : List Evt) (f t : Int), (∀ e ∈ l, right e.v e.d e.t = true) → (0 ≤ f ∧ f ≤ 576) → (0 < f ∨ ∀ e ∈ l.head?, e.v ≠ 0) → (onsT f t l).Pairwise (· < ·) ∧ ∀ x ∈ onsT f t l, t < x ∧ x ≤ t + 576 * l.length
  | [], f, t, _, _, _ => by simp [onsT]
  | e :: r, f, t, hr, hf, h0 => by
    have hp := frc_pos (hr e (by simp)) (h0.imp id fun h => h e (by simp)) hf
    obtain ⟨a, b⟩ := onsT_asc r (frc f e) (t + frc f e) (fun e he => hr e (List.mem_cons_of_mem _ he)) ⟨by omega, hp.2⟩ (.inl hp.1)
    refine ⟨?_, fun x hx => ?_⟩
    · rw [onsT, List.pairwise_cons]
      exact ⟨fun x hx => (b x hx).1, a⟩
    · rw [onsT] at hx
      rw [List.length_cons]
      rcases List.mem_cons.1 hx with rfl | hx
      · omega
      · have := b x hx
        omega
theorem chk_first {p : Pc} (hc : chk p = 0) : ∀ e ∈ p.evs.head?, e.v ≠ 0 := by
  intro e he hv
  obtain ⟨h1, h2, h3⟩ := chk_iff.1 hc
  cases hp : p.evs with
  | nil => rw [hp] at he; cases he
  | cons a r =>
    have h0 : 0 < p.evs.length := by rw [hp]; simp
    have h4 := h3 0 h0
    have ha : p.evs[0] = a := by simp [hp]
    rw [hp] at he
    simp only [List.head?_cons, Option.mem_def, Option.some.injEq] at he
    rw [ha, he] at h4
    exact (chkEv_iff.1 h4).2.1 ⟨rfl, hv⟩
theorem ons_asc {p : Pc} (hc : chk p = 0) : (onsets p).Pairwise (· < ·) ∧ ∀ x ∈ onsets p, 0 ≤ x ∧ x ≤ 230400 := by
  obtain ⟨a, b⟩ := onsT_asc p.evs 0 0 (chk_right hc) (by omega) (.inr (chk_first hc))
  have hl := chk_len hc
  refine ⟨List.pairwise_cons.2 ⟨fun x hx => (b x hx).1, a⟩, fun x hx => ?_⟩
  rcases List.mem_cons.1 hx with rfl | hx
  · omega
  · have := b x hx
    omega
theorem on_get {p : Pc} {k : Nat} (h : k ≤ p.evs.length) : (onsets p)[k]'(by rw [ons_len]; omega) = on p k := by
  unfold on
  rw [List.getD, List.getElem?_eq_getElem (by rw [ons_len]; omega)]; rfl
theorem on_bd {p : Pc} (hc : chk p = 0) (k : Nat) : 0 ≤ on p k ∧ on p k ≤ 230400 := by
  unfold on
  rw [List.getD]
  cases h : (onsets p)[k]? with
  | none => simp
  | some x => exact (ons_asc hc).2 x (List.mem_of_getElem? h)
end Go.Ab.V

/-
  Pitches, stays, the ends of open notes, and the sounding piece. The pieces are valid.
-/
namespace Go.Ab.V
open Go.Proofs

def crsAt (i : Ins) (c : Int) : Crs := i.cs.getD (c - 1).toNat ⟨0, 0, false⟩
/-- the pitch of a place -/
def pitchOf (i : Ins) (c f : Int) : Int := (crsAt i c).pitch + if 0 < f then i.steps.getD (f - 1).toNat 0 else 0
theorem crsAt_mem {i : Ins} {c : Int} (h : 1 ≤ c ∧ c ≤ i.cs.length) : crsAt i c ∈ i.cs := by
  have hl : (c - 1).toNat < i.cs.length := by omega
  unfold crsAt
  rw [List.getD, List.getElem?_eq_getElem hl]
  exact List.getElem_mem hl
theorem crsAt_get {i : Ins} {c : Int} (h : 1 ≤ c ∧ c ≤ i.cs.length) : (i.cs.map crR)[0 + (c - 1).toNat]? = some (crR (crsAt i c)) := by
  have hl : (c - 1).toNat < i.cs.length := by omega
  unfold crsAt
  rw [Nat.zero_add, List.getElem?_map, List.getElem?_eq_getElem hl, List.getD, List.getElem?_eq_getElem hl]; rfl
theorem steps_get {i : Ins} {f : Int} (h : 0 < f ∧ f ≤ i.steps.length) : (ints i.steps)[0 + (f - 1).toNat]? = some [.int .i64 (i.steps.getD (f - 1).toNat 0)] := by
  have hl : (f - 1).toNat < i.steps.length := by omega
  unfold ints
  rw [Nat.zero_add, List.getElem?_map, List.getElem?_eq_getElem hl, List.getD, List.getElem?_eq_getElem hl]; rfl
theorem steps_bd {i : Ins} (h : ∀ x ∈ i.steps, 0 < x ∧ x ≤ 127) (k : Nat) : 0 ≤ i.steps.getD k 0 ∧ i.steps.getD k 0 ≤ 127 := by
  rw [List.getD]
  cases hk : i.steps[k]? with
  | none => simp
  | some x => have := h x (List.mem_of_getElem? hk); simp only [Option.getD_some]; omega

def A79 : Ann := fun r => match r with
  | 0 => { slots := [(0, 0), (1, 1)] }
  | _ => {}
def A57 : Ann := fun r => match r with
  | 0 => { slots := [(0, 0), (1, 1)] }
  | 6 => { slots := [(7, 2)] }
  | _ => {}
set_option maxHeartbeats 1000000 in
set_option maxRecDepth 100000 in
theorem stopped109 (i : Ins) (c : Crs) (f : Int) (hs : ∀ x ∈ i.steps, 0 < x ∧ x ≤ 127) (hl : i.steps.length ≤ 18) (hf : 0 ≤ f ∧ f ≤ i.steps.length) (hp : 0 ≤ c.pitch ∧ c.pitch ≤ 127) :
    PRet C.P 79 [inA i, .agg (crR c), .int .i64 f] (.int .i64 (c.pitch + if 0 < f then i.steps.getD (f - 1).toNat 0 else 0)) := by
  by_cases h0 : 0 < f
  · rw [if_pos h0]
    have hb := steps_bd hs (f - 1).toNat
    have hm := steps_get (i := i) ⟨h0, hf.2⟩
    generalize i.steps.getD (f - 1).toNat 0 = x at hm hb
    have hw : IntKind.i64.wrap (f - 1) = f - 1 := wrapI (by omega) (by omega)
    rw [← hw] at hm
    have hw2 : IntKind.i64.wrap (c.pitch + x) = c.pitch + x := wrapI (by omega) (by omega)
    rw [← hw2]
    refine pret_of ok mixed (A := A79) 2 Tryz.func79 rfl ?_
    (repeat' (first | exact rfl | ((conv => whnf); first | refine optS hm ?_ | exact rfl | exact ⟨rfl, rfl⟩ | refine ⟨(by kernel_rfl : drawOk _ _ _ _ = true), ?_⟩ | refine ⟨(by kernel_rfl : planOk _ _ _ _ = true), ?_⟩ | refine ⟨rfl, ?_⟩ | refine ⟨by (first | omega | (simp (disch := omega) only [wrapI]; omega) | (simp (disch := omega) only [wrapI]; simp; omega) | (simp; omega)), ?_⟩ | (intro ep) | (refine ifB (fun hb => ?_) (fun hb => ?_) <;> (try simp only [decide_eq_true_eq, decide_eq_false_iff_not, beq_iff_eq, beq_eq_false_iff_ne, bne_iff_ne, bne_eq_false_iff_eq, ne_eq, not_false_eq_true, not_true_eq_false, Bool.not_eq_true, Bool.not_eq_true', Bool.not_eq_false', Int.not_lt, Int.not_le] at hb) <;> (try simp (disch := omega) only [wrapI] at hb) <;> (try (exfalso; omega))) | fail)))
  · rw [if_neg h0, Int.add_zero]
    obtain rfl : f = 0 := by omega
    refine pret_of ok mixed (A := A79) 2 Tryz.func79 rfl ?_
    (repeat' (first | exact rfl | ((conv => whnf); first | exact rfl | exact ⟨rfl, rfl⟩ | refine ⟨(by kernel_rfl : drawOk _ _ _ _ = true), ?_⟩ | refine ⟨(by kernel_rfl : planOk _ _ _ _ = true), ?_⟩ | refine ⟨rfl, ?_⟩ | refine ⟨by (first | omega | (simp (disch := omega) only [wrapI]; omega) | (simp (disch := omega) only [wrapI]; simp; omega) | (simp; omega)), ?_⟩ | (intro ep) | (refine ifB (fun hb => ?_) (fun hb => ?_) <;> (try simp only [decide_eq_true_eq, decide_eq_false_iff_not, beq_iff_eq, beq_eq_false_iff_ne, bne_iff_ne, bne_eq_false_iff_eq, ne_eq, not_false_eq_true, not_true_eq_false, Bool.not_eq_true, Bool.not_eq_true', Bool.not_eq_false', Int.not_lt, Int.not_le] at hb) <;> (try simp (disch := omega) only [wrapI] at hb) <;> (try (exfalso; omega))) | fail)))
set_option maxHeartbeats 1000000 in
set_option maxRecDepth 100000 in
theorem at88 (p : Pc) (v : Vp p) (c f : Int) (hc : 1 ≤ c ∧ c ≤ p.ins.cs.length) (hf : 0 ≤ f ∧ f ≤ fretsOf p.ins c) : PRet C.P 57 [inA p.ins, .agg [.int .i64 c, .int .i64 f]] (.tup [.int .i64 (pitchOf p.ins c f), .int .i64 0]) := by
  have h0 := inCheck_spec p.ins
  rw [v.chkI] at h0
  have hcr := v.crs _ (crsAt_mem hc)
  have hfr : fretsOf p.ins c = (crsAt p.ins c).frets := rfl
  rw [hfr] at hf
  have hs := v.steps
  have h1 := stopped109 p.ins (crsAt p.ins c) f v.stp v.steps (by omega) (by omega)
  have hcs := v.cs
  have hm := crsAt_get hc
  unfold pitchOf
  generalize crsAt p.ins c = x at h1 hm hcr hf
  have hw : IntKind.i64.wrap (c - 1) = c - 1 := wrapI (by omega) (by omega)
  rw [← hw] at hm
  generalize x.pitch + (if 0 < f then p.ins.steps.getD (f - 1).toNat 0 else 0) = y at h1
  refine pret_of ok mixed (A := A57) 3 Tryz.func57 rfl ?_
  (repeat' (first | exact rfl | ((conv => whnf); first | refine optS hm ?_ | refine ⟨_, h0, ?_⟩ | refine ⟨_, h1, ?_⟩ | exact rfl | exact ⟨rfl, rfl⟩ | refine ⟨(by kernel_rfl : drawOk _ _ _ _ = true), ?_⟩ | refine ⟨(by kernel_rfl : planOk _ _ _ _ = true), ?_⟩ | refine ⟨rfl, ?_⟩ | refine ⟨by (first | omega | (simp (disch := omega) only [wrapI]; omega) | (simp (disch := omega) only [wrapI]; simp; omega) | (simp; omega)), ?_⟩ | (intro ep) | (refine ifB (fun hb => ?_) (fun hb => ?_) <;> (try simp only [decide_eq_true_eq, decide_eq_false_iff_not, beq_iff_eq, beq_eq_false_iff_ne, bne_iff_ne, bne_eq_false_iff_eq, ne_eq, not_false_eq_true, not_true_eq_false, Bool.not_eq_true, Bool.not_eq_true', Bool.not_eq_false', Int.not_lt, Int.not_le] at hb) <;> (try simp (disch := omega) only [wrapI] at hb) <;> (try (exfalso; omega))) | fail)))
end Go.Ab.V

/-
  Stays, the ends of open notes, and the sounding piece. The pieces are valid.
-/
namespace Go.Ab.V
open Go.Proofs

/-- the sounding piece -/
def sndA (p : Pc) : AV := .agg [crsA p.ins.cs, intsA p.ins.steps, evsA p.evs, intsA (onsets p)]
def A37 : Ann := fun r => match r with
  | 0 => { slots := [(0, 0), (1, 1)] }
  | _ => {}
def A39 : Ann := fun r => match r with
  | 0 => { slots := [(0, 0)] }
  | _ => {}
set_option maxRecDepth 100000 in
theorem listen_ok (p : Pc) (hp : p.Ok) (hc : chk p = 0) : PRet C.P 37 [pcA p] (.tup [sndA p, .int .i64 0]) := by
  have h := onsets_spec p hp
  unfold onsV at h
  rw [if_pos hc] at h
  refine pret_of ok mixed (A := A37) 2 Tryz.func37 rfl ?_
  (repeat' (first | exact rfl | ((conv => whnf); first | refine ⟨_, h, ?_⟩ | exact rfl | exact ⟨rfl, rfl⟩ | refine ⟨(by kernel_rfl : drawOk _ _ _ _ = true), ?_⟩ | refine ⟨(by kernel_rfl : planOk _ _ _ _ = true), ?_⟩ | refine ⟨rfl, ?_⟩ | refine ⟨by (first | omega | (simp (disch := omega) only [wrapI]; omega) | (simp (disch := omega) only [wrapI]; simp; omega) | (simp; omega)), ?_⟩ | (intro ep) | (refine ifB (fun hb => ?_) (fun hb => ?_) <;> (try simp only [decide_eq_true_eq, decide_eq_false_iff_not, beq_iff_eq, beq_eq_false_iff_ne, bne_iff_ne, bne_eq_false_iff_eq, ne_eq, not_false_eq_true, not_true_eq_false, Bool.not_eq_true, Bool.not_eq_true', Bool.not_eq_false', Int.not_lt, Int.not_le] at hb) <;> (try simp (disch := omega) only [wrapI] at hb) <;> (try (exfalso; omega))) | fail)))
set_option maxRecDepth 100000 in
theorem listen_bad (p : Pc) (hp : p.Ok) (hc : chk p ≠ 0) : PRet C.P 37 [pcA p] (.tup [.agg [crsA p.ins.cs, intsA p.ins.steps, evsA p.evs, .nils], .int .i64 (chk p)]) := by
  have h := onsets_spec p hp
  unfold onsV at h
  rw [if_neg hc] at h
  generalize chk p = e at h
  refine pret_of ok mixed (A := A37) 2 Tryz.func37 rfl ?_
  (repeat' (first | exact rfl | ((conv => whnf); first | refine ⟨_, h, ?_⟩ | exact rfl | exact ⟨rfl, rfl⟩ | refine ⟨(by kernel_rfl : drawOk _ _ _ _ = true), ?_⟩ | refine ⟨(by kernel_rfl : planOk _ _ _ _ = true), ?_⟩ | refine ⟨rfl, ?_⟩ | refine ⟨by (first | omega | (simp (disch := omega) only [wrapI]; omega) | (simp (disch := omega) only [wrapI]; simp; omega) | (simp; omega)), ?_⟩ | (intro ep) | (refine ifB (fun hb => ?_) (fun hb => ?_) <;> (try simp only [decide_eq_true_eq, decide_eq_false_iff_not, beq_iff_eq, beq_eq_false_iff_ne, bne_iff_ne, bne_eq_false_iff_eq, ne_eq, not_false_eq_true, not_true_eq_false, Bool.not_eq_true, Bool.not_eq_true', Bool.not_eq_false', Int.not_lt, Int.not_le] at hb) <;> (try simp (disch := omega) only [wrapI] at hb) <;> (try (exfalso; omega))) | fail)))
set_option maxRecDepth 100000 in
theorem end56 (p : Pc) (v : Vp p) : PRet C.P 39 [sndA p] (.int .i64 (on p p.evs.length)) := by
  have hl := v.len
  have hn := ons_len p
  have hm : (ints (onsets p))[0 + (((onsets p).length : Int) - 1).toNat]? = some [.int .i64 (on p p.evs.length)] := by
    have := intsR (l := onsets p) (i := p.evs.length) (by omega)
    rw [on_get (Nat.le_refl _)] at this
    rw [hn, show (((p.evs.length + 1 : Nat) : Int) - 1).toNat = p.evs.length by omega]
    rwa [Int.toNat_natCast] at this
  have hw : IntKind.i64.wrap (((onsets p).length : Int) - 1) = ((onsets p).length : Int) - 1 := wrapI (by omega) (by omega)
  rw [← hw] at hm
  refine pret_of ok mixed (A := A39) 1 Tryz.func39 rfl ?_
  (repeat' (first | exact rfl | ((conv => whnf); first | refine optS hm ?_ | exact rfl | exact ⟨rfl, rfl⟩ | refine ⟨(by kernel_rfl : drawOk _ _ _ _ = true), ?_⟩ | refine ⟨(by kernel_rfl : planOk _ _ _ _ = true), ?_⟩ | refine ⟨rfl, ?_⟩ | refine ⟨by (first | omega | (simp (disch := omega) only [wrapI]; omega) | (simp (disch := omega) only [wrapI]; simp; omega) | (simp; omega)), ?_⟩ | (intro ep) | (refine ifB (fun hb => ?_) (fun hb => ?_) <;> (try simp only [decide_eq_true_eq, decide_eq_false_iff_not, beq_iff_eq, beq_eq_false_iff_ne, bne_iff_ne, bne_eq_false_iff_eq, ne_eq, not_false_eq_true, not_true_eq_false, Bool.not_eq_true, Bool.not_eq_true', Bool.not_eq_false', Int.not_lt, Int.not_le] at hb) <;> (try simp (disch := omega) only [wrapI] at hb) <;> (try (exfalso; omega))) | fail)))

/-- the ties at the head -/
def tiesL : List Evt → Nat
  | [] => 0
  | e :: r => if e.tie = true then tiesL r + 1 else 0
theorem tiesL_drop {l : List Evt} {k : Nat} (h : k < l.length) : tiesL (l.drop k) = if l[k].tie = true then tiesL (l.drop (k + 1)) + 1 else 0 := by
  rw [List.drop_eq_getElem_cons h, tiesL]
theorem tiesL_le : ∀ l : List Evt, tiesL l ≤ l.length
  | [] => by simp [tiesL]
  | e :: r => by rw [tiesL, List.length_cons]; have := tiesL_le r; split <;> omega
/-- the event behind the stay of a stop -/
def stayN (l : List Evt) (i h : Nat) : Nat := i + h + 1 + tiesL (l.drop (i + h + 1))
/-- the event at which an open note ends -/
def endE (c : Int) (e : Evt) : Bool := restE e || hasC e.stops c
def openN (l : List Evt) (i : Nat) (c : Int) : Nat := i + 1 + (l.drop (i + 1)).findIdx (endE c)
def endN (l : List Evt) (i : Nat) (s : Stp) : Nat := if 0 < s.f then stayN l i s.h.toNat else openN l i s.c
theorem find_drop {l : List Evt} {k : Nat} (c : Int) (h : k < l.length) : (l.drop k).findIdx (endE c) = if endE c l[k] = true then 0 else (l.drop (k + 1)).findIdx (endE c) + 1 := by
  rw [List.drop_eq_getElem_cons h, List.findIdx_cons]
  cases endE c l[k] <;> rfl
theorem stayN_le {l : List Evt} {i h : Nat} (hh : i + h + 1 ≤ l.length) : stayN l i h ≤ l.length := by
  have := tiesL_le (l.drop (i + h + 1))
  rw [List.length_drop] at this
  unfold stayN
  omega
theorem openN_le {l : List Evt} {i : Nat} (c : Int) (hh : i < l.length) : openN l i c ≤ l.length := by
  have := List.findIdx_le_length (xs := l.drop (i + 1)) (p := endE c)
  rw [List.length_drop] at this
  unfold openN
  omega
def A58 : Ann := fun r => match r with
  | 0 => { slots := [(0, 0)] }
  | _ => {}
def sndV (p : Pc) : List AV := [crsA p.ins.cs, intsA p.ins.steps, evsA p.evs, intsA (onsets p)]
set_option maxHeartbeats 1000000 in
set_option maxRecDepth 100000 in
theorem stay89 (p : Pc) (v : Vp p) (i : Nat) (h : Int) (h0 : 0 ≤ h) (hh : i + h.toNat + 1 ≤ p.evs.length) : PRet C.P 58 [sndA p, .int .i64 i, .int .i64 h] (.int .i64 ((stayN p.evs i h.toNat : Nat) - 1 : Int)) := by
  have hl := v.len
  obtain ⟨n, rfl⟩ : ∃ n : Nat, h = n := ⟨h.toNat, by omega⟩
  rw [Int.toNat_natCast] at hh ⊢
  have hw : IntKind.i64.wrap ((i : Int) + (n : Int)) = ((i + n : Nat) : Int) := by rw [wrapI (by omega) (by omega)]; omega
  obtain ⟨R, hR⟩ : ∃ R, R = stayN p.evs i n := ⟨_, rfl⟩
  rw [← hR]
  refine pret_of ok mixed (A := A58) 1 Tryz.func58 rfl ?_
  (repeat' (first | exact rfl | ((conv => whnf); first | exact rfl | exact ⟨rfl, rfl⟩ | refine ⟨(by kernel_rfl : drawOk _ _ _ _ = true), ?_⟩ | refine ⟨(by kernel_rfl : planOk _ _ _ _ = true), ?_⟩ | refine ⟨rfl, ?_⟩ | refine ⟨by (first | omega | (simp (disch := omega) only [wrapI]; omega) | (simp (disch := omega) only [wrapI]; simp; omega) | (simp; omega)), ?_⟩ | (intro ep) | fail)))
  all_goals (conv => whnf)
  rw [hw]
  obtain ⟨e0, he⟩ : ∃ e0, e0 = ep := ⟨_, rfl⟩
  subst he
  refine loopM ok mixed (A := A58) [3, 7] [0] (S := { k : Nat // k + 1 ≤ p.evs.length ∧ k + 1 + tiesL (p.evs.drop (k + 1)) = R })
    (fr := fun s => frOf 0 31 [(3, .optr (.s 0) e0 4 0 0), (7, .int .i64 (s.1 : Int))])
    (h := fun s => ⟨[.vec e0 [sndV p]], []⟩) (μ := fun s => p.evs.length - s.1) ⟨i + n, by omega, by rw [hR]; unfold stayN; rfl⟩ rfl rfl ?_
  rintro ⟨k, hk, hs⟩
  show aexR _ _ _ (frOf 0 31 [(3, .optr (.s 0) e0 4 0 0), (7, .int .i64 (k : Int))]) ⟨[.vec e0 [sndV p]], []⟩ _
  have hwk : IntKind.i64.wrap ((k : Int) + 1) = ((k + 1 : Nat) : Int) := by rw [wrapI (by omega) (by omega)]; omega
  by_cases g : k + 1 < p.evs.length
  · have hm := mapR (f := evR) g
    rw [← hwk] at hm
    rw [tiesL_drop g] at hs
    generalize p.evs[k + 1] = e at hm hs
    obtain ⟨b, v, d, t, y, l⟩ := e
    cases y with
    | true =>
      rw [if_pos rfl] at hs
      (repeat' (first | exact rfl | ((conv => whnf); first | refine optS hm ?_ | exact rfl | exact ⟨rfl, rfl⟩ | refine ⟨(by kernel_rfl : drawOk _ _ _ _ = true), ?_⟩ | refine ⟨(by kernel_rfl : planOk _ _ _ _ = true), ?_⟩ | refine ⟨rfl, ?_⟩ | refine ⟨by (first | omega | (simp (disch := omega) only [wrapI]; omega) | (simp (disch := omega) only [wrapI]; simp; omega) | (simp; omega)), ?_⟩ | (intro ep) | (refine ifB (fun hb => ?_) (fun hb => ?_) <;> (try simp only [decide_eq_true_eq, decide_eq_false_iff_not, beq_iff_eq, beq_eq_false_iff_ne, bne_iff_ne, bne_eq_false_iff_eq, ne_eq, not_false_eq_true, not_true_eq_false, Bool.not_eq_true, Bool.not_eq_true', Bool.not_eq_false', Int.not_lt, Int.not_le] at hb) <;> (try simp (disch := omega) only [wrapI] at hb) <;> (try (exfalso; omega))) | fail)))
      all_goals (conv => whnf)
      exact back_of ⟨k + 1, by omega, by omega⟩ ⟨by (first | exact rfl | (simp (disch := omega) only [wrapI]; exact rfl)), rfl, by simp only; omega⟩
    | false =>
      rw [if_neg (by simp)] at hs
      (repeat' (first | exact rfl | ((conv => whnf); first | refine optS hm ?_ | exact rfl | exact ⟨rfl, rfl⟩ | refine ⟨(by kernel_rfl : drawOk _ _ _ _ = true), ?_⟩ | refine ⟨(by kernel_rfl : planOk _ _ _ _ = true), ?_⟩ | refine ⟨rfl, ?_⟩ | refine ⟨by (first | omega | (simp (disch := omega) only [wrapI]; omega) | (simp (disch := omega) only [wrapI]; simp; omega) | (simp; omega)), ?_⟩ | (intro ep) | (refine ifB (fun hb => ?_) (fun hb => ?_) <;> (try simp only [decide_eq_true_eq, decide_eq_false_iff_not, beq_iff_eq, beq_eq_false_iff_ne, bne_iff_ne, bne_eq_false_iff_eq, ne_eq, not_false_eq_true, not_true_eq_false, Bool.not_eq_true, Bool.not_eq_true', Bool.not_eq_false', Int.not_lt, Int.not_le] at hb) <;> (try simp (disch := omega) only [wrapI] at hb) <;> (try (exfalso; omega))) | fail)))
      all_goals (conv => whnf)
      all_goals rw [show (R : Int) - 1 = k by omega]
  · rw [List.drop_eq_nil_of_le (by omega), tiesL] at hs
    (repeat' (first | exact rfl | ((conv => whnf); first | exact rfl | exact ⟨rfl, rfl⟩ | refine ⟨(by kernel_rfl : drawOk _ _ _ _ = true), ?_⟩ | refine ⟨(by kernel_rfl : planOk _ _ _ _ = true), ?_⟩ | refine ⟨rfl, ?_⟩ | refine ⟨by (first | omega | (simp (disch := omega) only [wrapI]; omega) | (simp (disch := omega) only [wrapI]; simp; omega) | (simp; omega)), ?_⟩ | (intro ep) | (refine ifB (fun hb => ?_) (fun hb => ?_) <;> (try simp only [decide_eq_true_eq, decide_eq_false_iff_not, beq_iff_eq, beq_eq_false_iff_ne, bne_iff_ne, bne_eq_false_iff_eq, ne_eq, not_false_eq_true, not_true_eq_false, Bool.not_eq_true, Bool.not_eq_true', Bool.not_eq_false', Int.not_lt, Int.not_le] at hb) <;> (try simp (disch := omega) only [wrapI] at hb) <;> (try (exfalso; omega))) | fail)))
    all_goals (conv => whnf)
    all_goals rw [show (R : Int) - 1 = k by omega]
end Go.Ab.V
