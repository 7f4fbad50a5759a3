/-
  What is proved here serves the law's text: each part says its own claim and its conditions. No condition is left open.
-/
import Derived.Test.YtchkiolagohnlaaGreatJO
set_option linter.unusedSimpArgs false
set_option linter.unusedVariables false

/-
  The document's Join. No condition but the machine's bounds on lengths.
-/
namespace Go.Ab.V
open Go.Proofs

/-- rows whose stops lie where the events come from -/
def rowJ (eps : Nat → Nat) (i : Nat) (e : Evt) : List AV := evX e (.oslc (.d (0 + memL.c * (0 + i))) (eps (0 + i)) 5 0 e.stops.length false)
theorem evX_fz {eps : Nat → Nat} {X : List AObj} {i : Nat} {e : Evt} {ss : List Stp} (hl : ss.length = e.stops.length) (h : X[0 + memL.c * (0 + i)]? = some (.vec (eps (0 + i)) (ss.map stR))) : (rowJ eps i e).map (fzC2 X) = evR (evS e ss) := by
  show [AV.bool e.bar, .int .i64 e.v, .bool e.d, .bool e.t, .bool e.tie, fzC2 X (.oslc (.d (0 + memL.c * (0 + i))) (eps (0 + i)) 5 0 e.stops.length false)] = _
  have : fzC2 X (.oslc (.d (0 + memL.c * (0 + i))) (eps (0 + i)) 5 0 e.stops.length false) = stsA ss := by
    simp only [fzC2, h, if_pos, ← hl]
    rfl
  rw [this]
  rfl
end Go.Ab.V

/-
  The law PieceRewrites. No condition.
-/
namespace Go.Ab.V
open Go.Proofs

theorem join_sm {p : Pc} (hs : p.Sm) : Pc.Sm ⟨p.ins, joinE (outE plnS sz p.evs)⟩ := by
  obtain ⟨P, hP⟩ : ∃ P, P = outE plnS sz p.evs := ⟨_, rfl⟩
  have hPs : Pc.Sm ⟨p.ins, P⟩ := by rw [hP]; exact Sm_body (p := p) (q := ⟨p.ins, outE plnS sz p.evs⟩) hs rfl (pln_body _).symm
  rw [← hP]
  have hI := jinv P
  refine ⟨hs.cs, hs.st, ?_, fun e he => ?_⟩
  · show (jL (jst P)).length ≤ 4000
    have h1 := hPs.ev
    have h2 := hI.ol
    have h3 := cF_le (jst P).m
    have h4 := hI.ml
    rw [jL_len hI]
    simp only at h1
    omega
  · obtain ⟨j, hj, rfl⟩ := List.getElem_of_mem (show e ∈ jL (jst P) from he)
    have hjo : j < (jst P).o.length := by rw [jL_len hI] at hj; exact hj
    obtain ⟨i, e, s, k1, k2, k3⟩ := hI.gs j hjo
    have hil : i < P.length := (List.getElem?_eq_some_iff.1 k2).1
    have hm : e ∈ P := by rw [List.getElem?_eq_getElem hil] at k2; rw [← Option.some.inj k2]; exact List.getElem_mem hil
    have hoj : (jst P).o[j] = withS e s := by rw [List.getElem?_eq_getElem hjo] at k3; exact Option.some.inj k3
    have h9 := hPs.sp e hm
    show ((jL (jst P))[j]).stops.length ≤ 4000
    simp only [jL, List.getElem_zipWith, hoj, goneE, evS, withS, List.length_map]
    exact h9
end Go.Ab.V

/-
  The signs of a number add up to it, descend, and are the fewest; which numbers have signs. No condition.
-/
namespace Go.Ab.V
open Go.Proofs

def sumK : List Nat → Nat
  | [] => 0
  | k :: l => tkN k + sumK l
theorem sigK_all (n : Nat) : 0 ≤ fw n → sumK (sigK n) = n ∧ ((sigK n).length : Int) = fw n ∧ (∀ i (h : i + 1 < (sigK n).length), tkN ((sigK n)[i + 1]) ≤ tkN ((sigK n)[i])) := by
  induction n using Nat.strongRecOn with
  | _ n ih =>
  intro hw
  by_cases h0 : n = 0
  · subst h0
    refine ⟨rfl, rfl, fun i h => ?_⟩
    simp [sigK_zero] at h
  obtain ⟨n1, n2⟩ := nxt_spec hw h0
  obtain ⟨q1, q2, q3⟩ := fw_nxt hw h0
  obtain ⟨p1, p2, p3⟩ := tkN_pos n1
  have hs := sigK_step hw h0
  obtain ⟨i1, i2, i3⟩ := ih (n - tkN (nxt n)) (by omega) q3
  refine ⟨by rw [hs, sumK, i1]; omega, by rw [hs, List.length_cons, Int.natCast_add, i2, q2]; simp, ?_⟩
  intro i h
  have key : ∀ (l : List Nat), l = nxt n :: sigK (n - tkN (nxt n)) → ∀ h : i + 1 < l.length, tkN (l[i + 1]) ≤ tkN (l[i]) := by
    rintro l rfl h
    cases i with
    | succ j => simp only [List.getElem_cons_succ]; exact i3 j (by simpa using h)
    | zero =>
      by_cases h1 : n - tkN (nxt n) = 0
      · rw [h1, sigK_zero] at h; simp at h
      have hs2 := sigK_step q3 h1
      have hm := nxt_mono hw h0 h1
      have := tk_desc hm (nxt_spec q3 h1).1
      simp only [List.getElem_cons_succ, List.getElem_cons_zero]
      have e : ∀ (l : List Nat), l = nxt (n - tkN (nxt n)) :: sigK (n - tkN (nxt n) - tkN (nxt (n - tkN (nxt n)))) → ∀ h : 0 < l.length, l[0] = nxt (n - tkN (nxt n)) := by
        rintro l rfl h; rfl
      rw [e _ hs2]
      exact this
  exact key _ hs h

end Go.Ab.V

/-
  What Break makes of the events of a piece. Plain Lean. No condition.
-/
namespace Go.Ab.V
open Go.Proofs

/-- the first multiple of bar behind a, b at most -/
def nxtB (bar a b : Nat) : Nat := min b ((a / bar + 1) * bar)
theorem nxtB_gt {bar a b : Nat} (hb : 0 < bar) (h : a < b) : a < nxtB bar a b ∧ nxtB bar a b ≤ b ∧ nxtB bar a b ≤ (a / bar + 1) * bar := by
  unfold nxtB
  have h1 : a < (a / bar + 1) * bar := by
    have := Nat.div_add_mod a bar
    have := Nat.mod_lt a hb
    rw [Nat.add_mul, Nat.one_mul, Nat.mul_comm]
    omega
  omega
theorem nxtB_bar {bar a b : Nat} (hb : 0 < bar) : nxtB bar a b - a ≤ bar := by
  unfold nxtB
  have := Nat.div_add_mod a bar
  have : (a / bar + 1) * bar = bar * (a / bar) + bar := by rw [Nat.add_mul, Nat.one_mul, Nat.mul_comm]
  omega
/-- the signs of a number of ticks -/
def sgsN (n : Nat) : List Sgn := (sigK n).map fun k => sgs.getD k sz
theorem sgR_tk : ∀ k, k < 21 → (sgs.getD k sz).tk = (tkN k : Nat) := by decide +kernel
theorem sgR_sgs (k : Nat) (h : k < 21) : sgR k = sgnR (sgs.getD k sz) ∧ (sgs.getD k sz).tk = (tkN k : Nat) := by
  refine ⟨?_, sgR_tk k h⟩
  have hl : k < sgs.length := by rw [sgs_len]; exact h
  unfold sgR
  rw [allRows_sgs, List.getD_eq_getElem?_getD, List.getD_eq_getElem?_getD, List.getElem?_map, List.getElem?_eq_getElem hl]
  rfl
theorem sgsN_rows {n : Nat} (h : 0 ≤ fw n) : outR (sigK n) = (sgsN n).map sgnR := by
  unfold outR sgsN
  rw [List.map_map]
  exact List.map_congr_left fun k hk => (sgR_sgs k (sigK_lt h k hk)).1
theorem sgsN_len (n : Nat) : (sgsN n).length = (sigK n).length := by simp [sgsN]
/-- the ticks of some signs -/
def sumT : List Sgn → Nat
  | [] => 0
  | s :: r => s.tk.toNat + sumT r
theorem sumT_map : ∀ l : List Nat, (∀ k ∈ l, k < 21) → sumT (l.map fun k => sgs.getD k sz) = sumK l
  | [], _ => rfl
  | a :: l, h => by
    simp only [List.map_cons, sumT, sumK]
    rw [sumT_map l fun k hk => h k (List.mem_cons_of_mem _ hk), (sgR_sgs a (h a (List.mem_cons_self ..))).2]
    rfl
theorem sgsN_sum {n : Nat} (h : 0 ≤ fw n) : sumT (sgsN n) = n := by
  unfold sgsN
  rw [sumT_map _ (sigK_lt h)]
  exact (sigK_all n h).1
theorem sgsN_pos {n : Nat} (h : 0 ≤ fw n) : ∀ s ∈ sgsN n, 4 ≤ s.tk := by
  intro s hs
  obtain ⟨k, hk, rfl⟩ := List.mem_map.1 hs
  have h1 := sigK_lt h k hk
  rw [(sgR_sgs k h1).2]
  have := (tkN_pos h1).1
  omega
theorem sgsN_ne {n : Nat} (h : 0 ≤ fw n) (h0 : 0 < n) : sgsN n ≠ [] := by
  intro e
  have := sgsN_sum h
  rw [e] at this
  simp [sumT] at this
  omega

def tkn (e : Evt) : Nat := (tkE e).toNat
/-- the signs of the stretch from x to y of an event from a to b -/
def segS (s : Sgn) (a b x y : Nat) : Option (List Sgn) := if x = a ∧ y = b then some [s] else if fw (y - x) < 0 then none else some (sgsN (y - x))
def evP (bar : Nat) (e : Evt) (a x k : Nat) (s : Sgn) : Evt := ⟨decide (k = 0 ∧ 0 < x ∧ x % bar = 0), s.v, s.d, s.t, if x = a ∧ k = 0 then e.tie else !restE e, if x = a ∧ k = 0 then e.stops else []⟩
def evsP (bar : Nat) (e : Evt) (a x : Nat) (l : List Sgn) : List Evt := l.mapIdx (evP bar e a x)
def brkS (bar : Nat) (e : Evt) (a b : Nat) : Nat → Nat → Option (List Evt)
  | 0, _ => some []
  | n + 1, x => if x < b then match segS e.sg a b x (nxtB bar x b) with
      | none => none
      | some l => (brkS bar e a b n (nxtB bar x b)).map (evsP bar e a x l ++ ·)
    else some []
theorem brkS_fuel {bar : Nat} {e : Evt} {a b : Nat} (hb : 0 < bar) : ∀ (n m x : Nat), b - x ≤ n → b - x ≤ m → brkS bar e a b n x = brkS bar e a b m x
  | 0, 0, _, _, _ => rfl
  | 0, m + 1, x, h, _ => by rw [brkS, brkS, if_neg (by omega)]
  | n + 1, 0, x, _, h => by rw [brkS, brkS, if_neg (by omega)]
  | n + 1, m + 1, x, h, h2 => by
    rw [brkS, brkS]
    by_cases hx : x < b
    · rw [if_pos hx, if_pos hx]
      have := nxtB_gt hb hx
      rw [brkS_fuel hb n m _ (by omega) (by omega)]
    · rw [if_neg hx, if_neg hx]
/-- what is left of an event from a to b, from x on -/
def brkF (bar : Nat) (e : Evt) (a b x : Nat) : Option (List Evt) := brkS bar e a b (b - x) x
theorem brkF_end {bar : Nat} {e : Evt} {a b x : Nat} (h : b ≤ x) : brkF bar e a b x = some [] := by
  unfold brkF
  rw [show b - x = 0 by omega]
  rfl
theorem brkF_none {bar : Nat} {e : Evt} {a b x : Nat} (h : x < b) (hs : segS e.sg a b x (nxtB bar x b) = none) : brkF bar e a b x = none := by
  unfold brkF
  obtain ⟨n, hn⟩ : ∃ n, b - x = n + 1 := ⟨b - x - 1, by omega⟩
  rw [hn, brkS, if_pos h, hs]
theorem brkF_some {bar : Nat} {e : Evt} {a b x : Nat} {l : List Sgn} (hb : 0 < bar) (h : x < b) (hs : segS e.sg a b x (nxtB bar x b) = some l) : brkF bar e a b x = (brkF bar e a b (nxtB bar x b)).map (evsP bar e a x l ++ ·) := by
  unfold brkF
  obtain ⟨n, hn⟩ : ∃ n, b - x = n + 1 := ⟨b - x - 1, by omega⟩
  have := nxtB_gt hb h
  rw [hn, brkS, if_pos h, hs, brkS_fuel hb n (b - nxtB bar x b) _ (by omega) (by omega)]
def brkE (bar : Nat) (e : Evt) (a : Nat) : Option (List Evt) := brkF bar e a (a + tkn e) a
def brkL (bar : Nat) : Nat → List Evt → Option (List (List Evt))
  | _, [] => some []
  | a, e :: r => match brkE bar e a with
    | none => none
    | some m => (brkL bar (a + tkn e) r).map (m :: ·)
/-- where the events of a group come from: the first one alone has the stops -/
def srcG (i : Nat) : List Evt → List (Option Nat)
  | [] => []
  | _ :: r => some i :: r.map fun _ => none
theorem srcG_len (i : Nat) (m : List Evt) : (srcG i m).length = m.length := by cases m <;> simp [srcG]
theorem srcG_snoc (i : Nat) (m : List Evt) (e : Evt) : srcG i (m ++ [e]) = srcG i m ++ [if m = [] then some i else none] := by
  cases m with
  | nil => rfl
  | cons a r => simp [srcG]
def srcL : Nat → List (List Evt) → List (Option Nat)
  | _, [] => []
  | i, g :: r => srcG i g ++ srcL (i + 1) r
theorem srcL_snoc : ∀ (i : Nat) (G : List (List Evt)) (g : List Evt), srcL i (G ++ [g]) = srcL i G ++ srcG (i + G.length) g
  | i, [], g => by simp [srcL]
  | i, h :: G, g => by
    simp only [List.cons_append, srcL, srcL_snoc (i + 1) G g, List.append_assoc, List.length_cons]
    rw [show i + 1 + G.length = i + (G.length + 1) by omega]
theorem srcL_len : ∀ (i : Nat) (G : List (List Evt)), (srcL i G).length = G.flatten.length
  | _, [] => rfl
  | i, g :: G => by simp [srcL, srcG_len, srcL_len (i + 1) G]
/-- the first event of each group -/
def fstL : Nat → List (List Evt) → List Nat
  | _, [] => []
  | c, g :: r => c :: fstL (c + g.length) r
theorem fstL_len : ∀ (c : Nat) (G : List (List Evt)), (fstL c G).length = G.length
  | _, [] => rfl
  | c, g :: G => by simp [fstL, fstL_len]
theorem fstL_snoc : ∀ (c : Nat) (G : List (List Evt)) (g : List Evt), fstL c (G ++ [g]) = fstL c G ++ [c + G.flatten.length]
  | c, [], g => by simp [fstL]
  | c, h :: G, g => by
    simp only [List.cons_append, fstL, fstL_snoc (c + h.length) G g, List.flatten_cons, List.length_append]
    rw [show c + h.length + G.flatten.length = c + (h.length + G.flatten.length) by omega]
theorem brkL_len {bar : Nat} : ∀ {l : List Evt} {a : Nat} {G : List (List Evt)}, brkL bar a l = some G → G.length = l.length
  | [], _, G, h => by simp only [brkL, Option.some.injEq] at h; subst h; rfl
  | e :: r, a, G, h => by
    simp only [brkL] at h
    split at h
    · cases h
    · rename_i m hm
      rw [Option.map_eq_some_iff] at h
      obtain ⟨G', h1, rfl⟩ := h
      simp [brkL_len h1]
/-- a hold behind Break -/
def holdB (F : List Nat) (i : Nat) (s : Stp) : Stp := if 0 < s.h then { s with h := ((F.getD (i + s.h.toNat) 0 : Nat) : Int) - (F.getD i 0 : Nat) } else s
def longH (F : List Nat) (i : Nat) (s : Stp) : Bool := decide (15 < (holdB F i s).h)
def badL (F : List Nat) : Nat → List Evt → Bool
  | _, [] => false
  | i, e :: r => e.stops.any (longH F i) || badL F (i + 1) r
def evB (F : List Nat) (i : Nat) (e : Evt) : Evt := evS e (e.stops.map (holdB F i))
/-- the events of the result -/
def brkG (F : List Nat) (i : Nat) : List Evt → List Evt
  | [] => []
  | e :: r => evB F i e :: r
def brkO (F : List Nat) : Nat → List (List Evt) → List Evt
  | _, [] => []
  | i, g :: r => brkG F i g ++ brkO F (i + 1) r
theorem brkG_len (F : List Nat) (i : Nat) (g : List Evt) : (brkG F i g).length = g.length := by cases g <;> rfl
theorem brkO_len (F : List Nat) : ∀ (i : Nat) (G : List (List Evt)), (brkO F i G).length = G.flatten.length
  | _, [] => rfl
  | i, g :: G => by simp [brkO, brkG_len, brkO_len F (i + 1) G]
def brkT (F : List Nat) (i : Ins) (P : List Evt) (G : List (List Evt)) : Except Int Pc := if badL F 0 P = true then .error 24 else .ok ⟨i, brkO F 0 G⟩
def brkQ (i : Ins) (P : List Evt) (bar : Nat) : Except Int Pc := match brkL bar 0 P with
  | none => .error 25
  | some G => if 400 < G.flatten.length then .error 2 else brkT (fstL 0 G) i P G
def brkP (p : Pc) (bar : Int) : Except Int Pc := if chk p ≠ 0 then .error (chk p) else if bar < 1 ∨ 4608 < bar then .error 1 else brkQ p.ins (outE plnS sz p.evs) bar.toNat

/-! ### what a group is made of -/
/-- every part of an event has its beginning alone with the stops -/
structure GrpOk (i : Nat) (e : Evt) (g : List Evt) : Prop where
  ne : g ≠ []
  hd : ∀ (h : 0 < g.length), g[0].stops = e.stops
  tl : ∀ j (h : j < g.length), 0 < j → g[j].stops = []
theorem evsP_len (bar : Nat) (e : Evt) (a x : Nat) (l : List Sgn) : (evsP bar e a x l).length = l.length := by simp [evsP]
theorem segS_ne {s : Sgn} {a b x y : Nat} {l : List Sgn} (h : segS s a b x y = some l) (hx : x < y) : l ≠ [] := by
  unfold segS at h
  split at h
  · cases h; simp
  · split at h
    · cases h
    · cases h
      exact sgsN_ne (by omega) (by omega)
theorem segS_len {s : Sgn} {a b x y : Nat} {l : List Sgn} (h : segS s a b x y = some l) (hx : x < y) : l.length ≤ y - x := by
  unfold segS at h
  split at h
  · cases h; simp only [List.length_singleton]; omega
  · split at h
    · cases h
    · cases h
      rw [sgsN_len]
      exact sigK_len (by omega)
theorem brkF_tail {bar : Nat} {e : Evt} {a b : Nat} (hb : 0 < bar) : ∀ (n x : Nat) (g : List Evt), b - x ≤ n → a < x → brkF bar e a b x = some g → ∀ f ∈ g, f.stops = []
  | n, x, g, hn, hax, h => by
    by_cases hx : x < b
    · cases hs : segS e.sg a b x (nxtB bar x b) with
      | none => rw [brkF_none hx hs] at h; cases h
      | some l =>
        rw [brkF_some hb hx hs, Option.map_eq_some_iff] at h
        obtain ⟨g', h1, rfl⟩ := h
        have h2 := nxtB_gt hb hx
        intro f hf
        rcases List.mem_append.1 hf with hf | hf
        · obtain ⟨j, hj, rfl⟩ := List.getElem_of_mem hf
          simp only [evsP, List.getElem_mapIdx, evP]
          rw [if_neg (by omega)]
        · match n, hn with
          | 0, hn => omega
          | n + 1, hn => exact brkF_tail hb n _ g' (by omega) (by omega) h1 f hf
    · rw [brkF_end (by omega)] at h
      cases h
      intro f hf
      cases hf
theorem brkE_ok {bar : Nat} {e : Evt} {a : Nat} {g : List Evt} (hb : 0 < bar) (ht : 0 < tkn e) (h : brkE bar e a = some g) (i : Nat) : GrpOk i e g := by
  unfold brkE at h
  have hx : a < a + tkn e := by omega
  cases hs : segS e.sg a (a + tkn e) a (nxtB bar a (a + tkn e)) with
  | none => rw [brkF_none hx hs] at h; cases h
  | some l =>
    rw [brkF_some hb hx hs, Option.map_eq_some_iff] at h
    obtain ⟨g', h1, rfl⟩ := h
    have h2 := nxtB_gt hb hx
    have hl := segS_ne hs h2.1
    have hl0 : 0 < l.length := by cases l; exact absurd rfl hl; simp
    have ht := brkF_tail hb _ _ g' (Nat.le_refl _) h2.1 h1
    refine ⟨?_, fun h0 => ?_, fun j hj hj0 => ?_⟩
    · intro e0
      have := congrArg List.length e0
      simp [evsP_len] at this
      exact hl this.1
    · rw [List.getElem_append_left (by rw [evsP_len]; exact hl0)]
      simp [evsP, evP]
    · by_cases hjl : j < l.length
      · rw [List.getElem_append_left (by rw [evsP_len]; exact hjl)]
        simp only [evsP, List.getElem_mapIdx, evP]
        rw [if_neg (by omega)]
      · rw [List.getElem_append_right (by rw [evsP_len]; omega)]
        exact ht _ (List.getElem_mem _)

end Go.Ab.V
