/-
  What is proved here serves the law's text: each part says its own claim and its conditions. No condition is left open.
-/
import Derived.Test.YthdhhhgjdegafaaJN
set_option linter.unusedSimpArgs false
set_option linter.unusedVariables false

namespace Go.Ab.V
def cs0 (φ : List Nat) : List Int := φ.map fun t : Nat => mnC (t : Int)
end Go.Ab.V

namespace Go.Ab.V
def FG (g f : Int) (y y' : Nt) : Prop := y' = y ∨ (y' = nt0 ∧ 0 < y.t ∧ y.t + g < f)
def RS (g f : Int) (s v : St) : Prop := ∀ k, FG g f (s.get k) (v.get k)
def NM (n : List Nt) (s : St) : Prop := ∀ k, 0 < (s.get k).t → s.get k ∈ n
def QN (y z : Nt) : Prop := (y.e = z.e ∧ y.f = z.f) ∨ (y.e < z.e ∧ y.f < z.f)
theorem qn_some : ∀ (l : List Nt) (b : Nt), chkNs (some b) l = 0 → (∀ y ∈ l, QN b y) ∧ l.Pairwise QN
 | [], b, _ => ⟨by simp, .nil⟩
 | y :: r, b, h => by
  unfold chkNs at h
  split at h
  ·simp at h
  ·split at h
   ·simp at h
   ·rename_i d
    obtain ⟨h1, h2⟩ := qn_some r y h
    have hq : QN b y := by
     unfold ntOff at d
     unfold QN
     omega
    refine ⟨fun z hz => ?_, List.pairwise_cons.2 ⟨h1, h2⟩⟩
    rcases List.mem_cons.1 hz with rfl | hz
    ·exact hq
    ·have := h1 z hz
     unfold QN at *
     omega
theorem qn_all {l : List Nt} (h : chkN l = 0) : l.Pairwise QN := by
 unfold chkN at h
 split at h
 ·simp at h
 ·cases l with
  | nil => exact .nil
  | cons y r =>
   unfold chkNs at h
   split at h
   ·simp at h
   ·obtain ⟨h1, h2⟩ := qn_some r y h
    exact List.pairwise_cons.2 ⟨h1, h2⟩
theorem ef_eq {l : List Nt} (h : chkN l = 0) {y z : Nt} (hy : y ∈ l) (hz : z ∈ l) (he : y.e = z.e) : y.f = z.f := by
 obtain ⟨i, hi, rfl⟩ := List.mem_iff_getElem.1 hy
 obtain ⟨j, hj, rfl⟩ := List.mem_iff_getElem.1 hz
 have hp := List.pairwise_iff_getElem.1 (qn_all h)
 rcases Nat.lt_trichotomy i j with c | c | c
 ·have := hp i j hi hj c
  unfold QN at this
  omega
 ·subst c; rfl
 ·have := hp j i hj hi c
  unfold QN at this
  omega
theorem ft_lt {l : List Nt} (h : chkN l = 0) {y : Nt} (hy : y ∈ l) : 0 ≤ y.f ∧ y.f < y.t := by
 have := (ntsOk_of h).fit y hy
 unfold ntBad at this
 omega
theorem set_fg {g f : Int} {s v : St} (h : RS g f s v) {k : Nat} (hk : k < 5) (y : Nt) : RS g f (s.set k y) (v.set k y) := by
 intro j
 rw [St.get_set _ hk, St.get_set _ hk]
 split
 ·exact .inl rfl
 ·exact h j
theorem set_nm {n : List Nt} {s : St} (h : NM n s) {k : Nat} (hk : k < 5) {y : Nt} (hy : y ∈ n) : NM n (s.set k y) := by
 intro j
 rw [St.get_set _ hk]
 split
 ·exact fun _ => hy
 ·exact h j
section
variable {x : Lm} (X : LmOk x) {n : List Nt} (hN : chkN n = 0)
include X hN
theorem join_fg {f : Int} {s v : St} (h : RS x.gap f s v) (hm : NM n s) {y : Nt} (hy : y ∈ n) (hf : y.f = f) (u : Int) : match join x v y u with
  | none => join x s y u = none
  | some d => ∃ t, join x s y u = some (d.1, t) ∧ RS x.gap f t d.2 ∧ NM n t := by
 have h5 := X.lo5
 have hg := X.gap
 by_cases c1 : u < 1 ∨ (x.lo.length : Int) < u
 ·have e1 : ∀ w, join x w y u = none := fun w => by unfold join; rw [if_pos c1]
  rw [e1]
  exact e1 s
 have hset := set_fg h (show (u - 1).toNat < 5 by omega) y
 have hnm := set_nm hm (show (u - 1).toNat < 5 by omega) hy
 have hk := h (u - 1).toNat
 have hmk := hm (u - 1).toNat
 unfold join
 rw [if_neg c1, if_neg c1]
 by_cases c2 : y.p < x.lo.getD (u - 1).toNat 0 ∨ x.hi.getD (u - 1).toNat 0 < y.p
 ·rw [if_pos c2, if_pos c2]
 rw [if_neg c2, if_neg c2]
 rcases hk with e | ⟨e, e1, e2⟩
 ·rw [e]
  by_cases c3 : 0 < (s.get (u - 1).toNat).t ∧ (s.get (u - 1).toNat).e = y.e
  ·rw [if_pos c3]; simp only [if_pos c3]
  rw [if_neg c3, if_neg c3]
  by_cases c4 : 0 < (s.get (u - 1).toNat).t ∧ y.f ≤ (s.get (u - 1).toNat).t + x.gap
  ·rw [if_pos c4, if_pos c4]
   by_cases c5 : x.leap < dst y.p (s.get (u - 1).toNat).p
   ·rw [if_pos c5, if_pos c5]
   ·rw [if_neg c5, if_neg c5]
    exact ⟨_, rfl, hset, hnm⟩
  ·rw [if_neg c4, if_neg c4]
   exact ⟨_, rfl, hset, hnm⟩
 ·rw [e]
  have z0 : ¬ (0 < nt0.t ∧ nt0.e = y.e) := by unfold nt0; simp
  have z1 : ¬ (0 < nt0.t ∧ y.f ≤ nt0.t + x.gap) := by unfold nt0; simp
  have z2 : ¬ (0 < (s.get (u - 1).toNat).t ∧ (s.get (u - 1).toNat).e = y.e) := by
   rintro ⟨_, a2⟩
   have b1 := hmk e1
   have b2 := ef_eq hN b1 hy a2
   have b3 := ft_lt hN b1
   omega
  have z3 : ¬ (0 < (s.get (u - 1).toNat).t ∧ y.f ≤ (s.get (u - 1).toNat).t + x.gap) := by omega
  rw [if_neg z0, if_neg z1, if_neg z2, if_neg z3]
  exact ⟨_, rfl, hset, hnm⟩
theorem walk_fg {f : Int} : ∀ (ns : List Nt) (s v : St) (m : Int) (l : List Int), RS x.gap f s v → NM n s → (∀ y ∈ ns, y ∈ n ∧ y.f = f) → match walk (stp x) ns (v, m) l with
  | none => walk (stp x) ns (s, m) l = none
  | some d => ∃ t, walk (stp x) ns (s, m) l = some (t, d.2) ∧ RS x.gap f t d.1 ∧ NM n t
 | [], s, v, m, [], h, hm, _ => ⟨s, rfl, h, hm⟩
 | [], s, v, m, _ :: _, h, hm, _ => rfl
 | _ :: _, s, v, m, [], h, hm, _ => rfl
 | y :: ns, s, v, m, u :: l, h, hm, hns => by
  obtain ⟨hy, hf⟩ := hns y (List.mem_cons_self ..)
  have hj := join_fg X hN h hm hy hf u
  rw [walk, walk]
  unfold stp
  cases e : join x v y u with
  | none =>
   rw [e] at hj
   simp only at hj
   rw [hj]
   rfl
  | some d =>
   rw [e] at hj
   obtain ⟨t, h1, h2, h3⟩ := hj
   rw [h1]
   simp only [Option.map_some]
   exact walk_fg ns t d.2 (m + d.1) l h2 h3 fun z hz => hns z (List.mem_cons_of_mem _ hz)
end
theorem ind_fg {g f : Int} (hg : 0 ≤ g) (hf : 0 ≤ f) {y y' z z' : Nt} (h1 : FG g f y y') (h2 : FG g f z z') : ind f y' z' = ind f y z := by
 unfold ind
 have nz : nt0.t = 0 := rfl
 rcases h1 with rfl | ⟨rfl, a1, a2⟩ <;> rcases h2 with rfl | ⟨rfl, b1, b2⟩
 ·rfl
 ·rw [if_neg (by omega), if_neg (by omega)]
 ·rw [if_neg (by omega), if_neg (by omega)]
 ·rw [if_neg (by omega), if_neg (by omega)]
theorem crB_fg {g f : Int} (hg : 0 ≤ g) (hf : 0 ≤ f) {s v : St} (h : RS g f s v) (j : Nat) : ∀ a, crB v f j a = crB s f j a
 | 0 => rfl
 | a + 1 => by rw [crB, crB, crB_fg hg hf h j a, ind_fg hg hf (h a) (h j)]
theorem crA_fg {g f : Int} (hg : 0 ≤ g) (hf : 0 ≤ f) {s v : St} (h : RS g f s v) : ∀ j, crA v f j = crA s f j
 | 0 => rfl
 | j + 1 => by rw [crA, crA, crA_fg hg hf h j, crB_fg hg hf h j j]
theorem crs_fg {g f : Int} (hg : 0 ≤ g) (hf : 0 ≤ f) {s v : St} (h : RS g f s v) : crs v f = crs s f := crA_fg hg hf h 5
theorem fgt_get (g f : Int) (v : St) (k : Nat) : (fgt g f v).get k = fgN g f (v.get k) := by
 match k with
 | 0 | 1 | 2 | 3 | 4 => rfl
 | k + 5 =>
  show nt0 = fgN g f nt0
  unfold fgN
  rw [if_neg (by unfold nt0; simp)]
theorem fgt_rs {g f f' : Int} (hff : f ≤ f') {s v : St} (h : RS g f s v) : RS g f' s (fgt g f' v) := by
 intro k
 rw [fgt_get]
 unfold fgN
 rcases h k with e | ⟨e, e1, e2⟩
 ·rw [e]
  by_cases c : 0 < (s.get k).t ∧ (s.get k).t + g < f'
  ·rw [if_pos c]; exact .inr ⟨rfl, c.1, c.2⟩
  ·rw [if_neg c]; exact .inl rfl
 ·rw [e, if_neg (by unfold nt0; simp)]
  exact .inr ⟨rfl, e1, by omega⟩
section
variable {N V σ : Type} {step : σ → N → V → Option σ} {vs : List V}
theorem dfs_mem : ∀ (r : List N) (s : σ) (l : List V) (p : List V × σ), p ∈ dfs step vs r s l ↔ ∃ q, p.1 = l ++ q ∧ (∀ v ∈ q, v ∈ vs) ∧ walk step r s q = some p.2
 | [], s, l, (p1, p2) => by
  rw [dfs, List.mem_singleton]
  constructor
  ·intro h
   cases h
   exact ⟨[], by simp, by simp, rfl⟩
  ·rintro ⟨q, h1, _, h3⟩
   cases q with
   | nil =>
    rw [walk] at h3
    cases h3
    simp only at h1
    rw [h1, List.append_nil]
   | cons a q => rw [walk] at h3; cases h3; all_goals simp
 | n :: r, s, l, (p1, p2) => by
  rw [dfs, List.mem_flatMap]
  constructor
  ·rintro ⟨v, hv, h⟩
   cases e : step s n v with
   | none => rw [e] at h; simp at h
   | some s' =>
    rw [e] at h
    obtain ⟨q, h1, h2, h3⟩ := (dfs_mem r s' (l ++ [v]) (p1, p2)).1 h
    refine ⟨v :: q, by rw [h1]; simp, fun u hu => ?_, ?_⟩
    ·rcases List.mem_cons.1 hu with rfl | hu
     ·exact hv
     ·exact h2 u hu
    ·rw [walk, e]
     exact h3
  ·rintro ⟨q, h1, h2, h3⟩
   cases q with
   | nil => rw [walk] at h3; cases h3; all_goals simp
   | cons v q =>
    rw [walk] at h3
    cases e : step s n v with
    | none => rw [e] at h3; simp at h3
    | some s' =>
     rw [e] at h3
     refine ⟨v, h2 v (List.mem_cons_self ..), ?_⟩
     rw [e]
     exact (dfs_mem r s' (l ++ [v]) (p1, p2)).2 ⟨q, by rw [h1]; simp, fun u hu => h2 u (List.mem_cons_of_mem _ hu), h3⟩
end
theorem walk_len {x : Lm} : ∀ {ns : List Nt} {s : St × Int} {l : List Int} {d : St × Int}, walk (stp x) ns s l = some d → l.length = ns.length ∧ ∀ v ∈ l, v ∈ vcs x
 | [], s, [], d, _ => ⟨rfl, by simp⟩
 | [], s, _ :: _, d, h => by rw [walk] at h; cases h; all_goals simp
 | _ :: _, s, [], d, h => by rw [walk] at h; cases h; all_goals simp
 | y :: ns, s, u :: l, d, h => by
  rw [walk] at h
  cases e : stp x s y u with
  | none => rw [e] at h; simp at h
  | some s' =>
   rw [e] at h
   obtain ⟨h1, h2⟩ := walk_len h
   refine ⟨by simp [h1], fun v hv => ?_⟩
   rcases List.mem_cons.1 hv with rfl | hv
   ·unfold stp at e
    rw [Option.map_eq_some_iff] at e
    obtain ⟨d', hd, _⟩ := e
    unfold join at hd
    split at hd
    ·cases hd
    ·unfold vcs
     exact List.mem_map.2 ⟨(v - 1).toNat, List.mem_range.2 (by omega), by omega⟩
   ·exact h2 v hv
def vok (x : Lm) (n : List Nt) : St → List (Nat × Nat) → List Int → Option Co
 | _, [], l => if l = [] then some (0, 0) else none
 | s, (a, cnt) :: S, l => match walk (stp x) ((n.drop a).take cnt) (s, 0) (l.take cnt) with
  | none => none
  | some d => if x.cross < crs d.1 (frN n a) then none else (vok x n d.1 S (l.drop cnt)).map fun r => (crs d.1 (frN n a) + r.1, d.2 + r.2)
theorem pkW_all {ls : List (List Co)} : ∀ {k : Nat} {p : Nat → Nat} {j q : Nat} {x : Co}, (ls.getD j [])[q]? = some x → p j ≤ q → q < pkP ls k p j → (⟨x.1, x.2, (j : Int), (q : Int)⟩ : Wy) ∈ pkW ls k p
 | 0, p, j, q, x, _, h1, h2 => by rw [pkP] at h2; omega
 | k + 1, p, j, q, x, hx, h1, h2 => by
  rw [pkP] at h2
  rw [pkW]
  cases hb : bst id ls p ls.length with
  | none => rw [hb] at h2; simp only at h2; omega
  | some jx =>
   rw [hb] at h2
   simp only at h2 ⊢
   have hd := (bst_hd hb).2
   unfold hdA at hd
   by_cases c : j = jx.1 ∧ q = p j
   ·obtain ⟨c1, c2⟩ := c
    subst c1 c2
    rw [hx] at hd
    cases hd
    exact List.mem_cons_self ..
   ·refine List.mem_cons_of_mem _ (pkW_all hx ?_ h2)
    unfold bump
    split <;> omega
theorem mrg_mem {ls : List (List Co)} {j q : Nat} {x : Co} (hx : (ls.getD j [])[q]? = some x) : (⟨x.1, x.2, (j : Int), (q : Int)⟩ : Wy) ∈ mrg ls := by
 refine pkW_all hx (Nat.zero_le _) ?_
 have hj : j < ls.length := rem_lt (x := x) (p := fun _ => q) ⟨q, Nat.le_refl _, hx⟩
 have h1 := pkP_full (ls := ls) (k := (ls.map List.length).sum) (p := fun _ => 0) (by rw [remN_sum]; exact Nat.le_refl _)
 have h2 := bst_none h1 j hj
 unfold hdA at h2
 have h3 := List.getElem?_eq_none_iff.1 h2
 have h4 := (List.getElem?_eq_some_iff.1 hx).1
 omega
end Go.Ab.V

namespace Go.Ab.V
theorem seg_f {n : List Nt} (hN : chkN n = 0) {i a cnt : Nat} (hs : (segR 0 n)[i]? = some (a, cnt)) : a < n.length ∧ a + cnt ≤ n.length ∧ ∀ y ∈ (n.drop a).take cnt, y ∈ n ∧ y.f = frN n a := by
 have hlen := (ntsOk_of hN).len
 obtain ⟨sg, ha⟩ := seg_at hs hlen
 refine ⟨ha, sg.le, fun y hy => ?_⟩
 have hm : y ∈ n := List.mem_of_mem_drop (List.mem_of_mem_take hy)
 have he := (seg_notes hN sg ha y hy).2.2
 exact ⟨hm, by rw [frN_at ha]; exact ef_eq hN hm (List.getElem_mem ha) he⟩
theorem seg_mono {n : List Nt} (hN : chkN n = 0) {i a cnt b d : Nat} (hs : (segR 0 n)[i]? = some (a, cnt)) (hs2 : (segR 0 n)[i + 1]? = some (b, d)) : frN n a ≤ frN n b := by
 obtain ⟨ha, _, _⟩ := seg_f hN hs
 obtain ⟨hb, _, _⟩ := seg_f hN hs2
 have hch : Chain n.length 0 (segR 0 n) := by have := chain_segR n.length 0 n (Nat.le_refl _); rwa [Nat.zero_add] at this
 have key : ∀ (S : List (Nat × Nat)) (o i : Nat), Chain n.length o S → S[i]? = some (a, cnt) → S[i + 1]? = some (b, d) → a < b := by
  intro S
  induction S with
  | nil => intro o i _ h; simp at h
  | cons q S ih =>
   intro o i hc h1 h2
   obtain ⟨q1, q2⟩ := q
   obtain ⟨c1, c2, c3⟩ := hc
   cases i with
   | zero =>
    simp only [List.getElem?_cons_zero, Option.some.injEq, Prod.mk.injEq] at h1
    cases S with
    | nil => simp at h2
    | cons q' S =>
     obtain ⟨q1', q2'⟩ := q'
     obtain ⟨d1, _, _⟩ := c3
     simp only [Nat.zero_add, List.getElem?_cons_succ, List.getElem?_cons_zero, Option.some.injEq, Prod.mk.injEq] at h2
     omega
   | succ i => exact ih _ i c3 (by simpa using h1) (by simpa using h2)
 have hab := key _ _ _ hch hs hs2
 rw [frN_at ha, frN_at hb]
 have := List.pairwise_iff_getElem.1 (qn_all hN) a b ha hb hab
 unfold QN at this
 omega
theorem mvE_mem {x : Lm} {n : List Nt} {i a cnt : Nat} (hs : (segR 0 n)[i]? = some (a, cnt)) {v : St} {mv : Mv} : mv ∈ mvE x n i v ↔ ∃ (l : List Int) (e : St × Int), walk (stp x) ((n.drop a).take cnt) (v, 0) l = some e ∧ ¬ x.cross < crs e.1 (frN n a) ∧ mv = ⟨l, crs e.1 (frN n a), e.2, frg x n e.1 (i + 1)⟩ := by
 have e0 : mvE x n i v = (dfs (stp x) (vcs x) ((n.drop a).take cnt) (v, 0) []).flatMap (fin x n i (frN n a)) := by unfold mvE; rw [hs]; rfl
 rw [e0, List.mem_flatMap]
 constructor
 ·rintro ⟨p, hp, hf⟩
  obtain ⟨q, h1, _, h3⟩ := (dfs_mem _ _ _ p).1 hp
  rw [List.nil_append] at h1
  unfold fin at hf
  split at hf
  ·simp at hf
  ·rename_i hc
   rw [List.mem_singleton] at hf
   exact ⟨q, p.2, h3, hc, by rw [hf, h1]⟩
 ·rintro ⟨l, e, h1, h2, rfl⟩
  refine ⟨(l, e), (dfs_mem _ _ _ _).2 ⟨l, by simp, (walk_len h1).2, h1⟩, ?_⟩
  unfold fin
  rw [if_neg h2]
  exact List.mem_singleton.2 rfl
theorem way_in {G : Steps} {g : List (List RMv)} {k : Nat} {h : RMv} {w' : Wy} (hh : h ∈ g.getD k []) (hw : w' ∈ WG G h.to) : ∃ w ∈ WG (g :: G) k, vwG (g :: G) k w = h.ks ++ vwG G h.to w' ∧ w.c = h.c + w'.c ∧ w.m = h.m + w'.m := by
 have hl : h ∈ lvOf (WG G) (g.getD k []) := List.mem_filter.2 ⟨hh, by
  cases e : WG G h.to with
  | nil => rw [e] at hw; simp at hw
  | cons a r => rfl⟩
 obtain ⟨j, hj⟩ := List.mem_iff_getElem?.1 hl
 obtain ⟨q, hq⟩ := List.mem_iff_getElem?.1 hw
 have hx : ((lsOf (WG G) (g.getD k [])).getD j [])[q]? = some (h.c + w'.c, h.m + w'.m) := by rw [lsOf_at hj, hq]; rfl
 refine ⟨_, by rw [WG]; exact mrg_mem hx, ?_, rfl, rfl⟩
 rw [vwG]
 simp only [Int.toNat_natCast, hj, hq]
theorem vok_iff {x : Lm} (X : LmOk x) {n : List Nt} (hN : chkN n = 0) {Ls : List Lay} (hG : Graph x n Ls) : ∀ (d i : Nat), i + d = (enR x n).length → ∀ (k : Nat) (hi : i < Ls.length) (hk : k < Ls[i].1.length) (s : St), NM n s → (∀ q, (segR 0 n)[i]? = some q → RS x.gap (frN n q.1) s Ls[i].1[k]) → ∀ (l : List Int) (r : Co),
  vok x n s ((segR 0 n).drop i) l = some r ↔ ∃ w ∈ WG ((enR x n).drop i) k, vwG ((enR x n).drop i) k w = l ∧ (w.c, w.m) = r
 | 0, i, hd, k, hi, hk, s, hm, hrs, l, r => by
  have hl := hG.l
  rw [List.drop_of_length_le (l := segR 0 n) (by omega), List.drop_of_length_le (l := enR x n) (by omega), vok, WG]
  constructor
  ·intro h
   split at h
   ·rename_i e
    cases h
    exact ⟨_, List.mem_singleton.2 rfl, by rw [vwG, e], rfl⟩
   ·cases h
  ·rintro ⟨w, hw, h1, h2⟩
   rw [List.mem_singleton] at hw
   subst hw
   rw [vwG] at h1
   rw [if_pos h1.symm, ← h2]
 | d + 1, i, hd, k, hi, hk, s, hm, hrs, l, r => by
  have hl := hG.l
  have hll := gr_len hG.g
  have hiE : i < (enR x n).length := by omega
  have hiS : i < (segR 0 n).length := by omega
  have S := gr_at hG.g (j := i) hiE hi (by omega)
  have hs := List.getElem?_eq_getElem hiS
  have hkE : k < (enR x n)[i].length := by rw [S.len]; exact hk
  have M := S.mv k _ _ (List.getElem?_eq_getElem hk) (List.getElem?_eq_getElem hkE)
  rw [Nat.zero_add] at M
  have hgd : (enR x n)[i].getD k [] = (enR x n)[i][k] := by rw [List.getD_eq_getElem?_getD, List.getElem?_eq_getElem hkE]; rfl
  have hR := hrs _ hs
  rw [List.drop_eq_getElem_cons hiS, List.drop_eq_getElem_cons hiE]
  generalize (segR 0 n)[i] = q at hs hR
  obtain ⟨a, cnt⟩ := q
  obtain ⟨ha, hac, hns⟩ := seg_f hN hs
  have hf0 : 0 ≤ frN n a := by rw [frN_at ha]; exact (ft_lt hN (List.getElem_mem ha)).1
  have hg0 := X.gap.1
  have hnl : ((n.drop a).take cnt).length = cnt := by rw [List.length_take, List.length_drop]; omega
  have hW := fun u => walk_fg X hN ((n.drop a).take cnt) s Ls[i].1[k] 0 u hR hm hns
  have hMm := fun mv => mvE_mem (x := x) (v := Ls[i].1[k]) (mv := mv) hs
  have hi1 : i + 1 < Ls.length := by omega
  have IH := vok_iff X hN hG d (i + 1) (by omega)
  have hnext : ∀ (to : Nat) (hto : to < Ls[i + 1].1.length) (t e : St), RS x.gap (frN n a) t e → Ls[i + 1].1[to] = frg x n e (i + 1) → ∀ q, (segR 0 n)[i + 1]? = some q → RS x.gap (frN n q.1) t Ls[i + 1].1[to] := fun to hto t e h1 h2 q hq => by
   rw [h2]
   unfold frg
   rw [hq]
   obtain ⟨b, d⟩ := q
   exact fgt_rs (seg_mono hN hs hq) h1
  have hF : ∀ (to : Nat) (hto : to < Ls[i + 1].1.length), Ls[i + 1].1.getD to st0 = Ls[i + 1].1[to] := fun to hto => by rw [List.getD_eq_getElem?_getD, List.getElem?_eq_getElem hto]; rfl
  rw [vok]
  constructor
  ·intro h
   cases e1 : walk (stp x) ((n.drop a).take cnt) (s, 0) (l.take cnt) with
   | none => rw [e1] at h; simp at h
   | some d1 =>
    rw [e1] at h
    simp only at h
    have hW1 := hW (l.take cnt)
    cases e2 : walk (stp x) ((n.drop a).take cnt) (Ls[i].1[k], 0) (l.take cnt) with
    | none => rw [e2] at hW1; simp only at hW1; rw [hW1] at e1; cases e1
    | some e =>
     rw [e2] at hW1
     obtain ⟨t, w1, w2, w3⟩ := hW1
     rw [e1] at w1
     cases w1
     simp only at h
     have hcr := crs_fg hg0 hf0 w2
     by_cases c : x.cross < crs t (frN n a)
     ·rw [if_pos c] at h; cases h
     rw [if_neg c, Option.map_eq_some_iff] at h
     obtain ⟨r', h1, rfl⟩ := h
     have hmv := (hMm ⟨l.take cnt, crs e.1 (frN n a), e.2, frg x n e.1 (i + 1)⟩).2 ⟨_, e, e2, by rw [hcr]; exact c, rfl⟩
     rw [M.2] at hmv
     obtain ⟨hv, hvM, hve⟩ := List.mem_map.1 hmv
     have hto := M.1 hv hvM
     unfold toMv at hve
     simp only [Mv.mk.injEq] at hve
     obtain ⟨v1, v2, v3, v4⟩ := hve
     rw [hF _ hto] at v4
     obtain ⟨w', hw', hvw, hwc⟩ := (IH hv.to hi1 hto t w3 (hnext hv.to hto t e.1 w2 v4) (l.drop cnt) r').1 h1
     obtain ⟨w, hw, z1, z2, z3⟩ := way_in (g := (enR x n)[i]) (k := k) (by rw [hgd]; exact hvM) hw'
     refine ⟨w, hw, by rw [z1, v1, hvw, List.take_append_drop], ?_⟩
     rw [z2, z3, v2, v3, hcr, ← hwc]
  ·rintro ⟨w, hw, hvw, hwr⟩
   obtain ⟨j, q, h, w', hj, hq, hm1, hmm, hw', hwc, hwm⟩ := way_ok hw
   rw [hgd] at hmm
   have hmv : toMv Ls[i + 1].1 h ∈ mvE x n i Ls[i].1[k] := by rw [M.2]; exact List.mem_map.2 ⟨h, hmm, rfl⟩
   obtain ⟨u, e, e2, hc, he⟩ := (hMm _).1 hmv
   unfold toMv at he
   simp only [Mv.mk.injEq] at he
   obtain ⟨v1, v2, v3, v4⟩ := he
   have hto := M.1 h hmm
   rw [hF _ hto] at v4
   rw [vwG, hj, hq, Int.toNat_natCast, Int.toNat_natCast, hm1] at hvw
   simp only [hw'] at hvw
   have hul := (walk_len e2).1
   rw [hnl] at hul
   rw [v1] at hvw
   have ht : l.take cnt = u := by rw [← hvw, ← hul, List.take_left']; rfl
   have hdr : l.drop cnt = vwG ((enR x n).drop (i + 1)) h.to w' := by rw [← hvw, ← hul, List.drop_left']; rfl
   have hW1 := hW u
   rw [e2] at hW1
   obtain ⟨t, w1, w2, w3⟩ := hW1
   have hcr := crs_fg hg0 hf0 w2
   have h1 := (IH h.to hi1 hto t w3 (hnext h.to hto t e.1 w2 v4) (l.drop cnt) (w'.c, w'.m)).2 ⟨w', List.mem_of_getElem? hw', hdr.symm, rfl⟩
   rw [ht, w1]
   simp only
   rw [if_neg (by rw [← hcr]; exact hc), h1, ← hwr, hwc, hwm, v2, v3, hcr]
   rfl
theorem walk_shift {x : Lm} : ∀ (ns : List Nt) (s : St) (m m' : Int) (l : List Int), walk (stp x) ns (s, m + m') l = (walk (stp x) ns (s, m') l).map fun d => (d.1, m + d.2)
 | [], s, m, m', [] => rfl
 | [], s, m, m', _ :: _ => rfl
 | _ :: _, s, m, m', [] => rfl
 | y :: ns, s, m, m', u :: l => by
  rw [walk, walk]
  unfold stp
  cases join x s y u with
  | none => rfl
  | some d =>
   simp only [Option.map_some]
   rw [show m + m' + d.1 = m + (m' + d.1) by omega]
   exact walk_shift ns d.2 m (m' + d.1) l
theorem vals_vok {x : Lm} {n : List Nt} {ks : List Int} (hl : ks.length = n.length) : ∀ (S : List (Nat × Nat)) (a : Nat) (s : St) (c m : Int), Chain n.length a S → match vok x n s S (ks.drop a) with
  | none => (vals x n ks s c m S).2.1 = 71
  | some r => vals x n ks s c m S = (0, 0, c + r.1, m + r.2)
 | [], a, s, c, m, hc => by
  have hc : a = n.length := hc
  rw [vok, if_pos (List.drop_of_length_le (by omega)), vals]
  simp
 | (b, cnt) :: S, a, s, c, m, hc => by
  obtain ⟨rfl, hcnt, hc⟩ := hc
  have hle := chain_le hc
  have hev := walk_evt x cnt b s m (n.drop b) ((ks.drop b).take cnt) ((ks.drop b).drop cnt) (by rw [List.length_drop]; omega) (by rw [List.length_take, List.length_drop]; omega)
  rw [List.take_append_drop] at hev
  have hsh := walk_shift (x := x) ((n.drop b).take cnt) s m 0 ((ks.drop b).take cnt)
  rw [Int.add_zero] at hsh
  rw [hsh] at hev
  rw [vok, vals]
  cases e1 : walk (stp x) ((n.drop b).take cnt) (s, 0) ((ks.drop b).take cnt) with
  | none =>
   rw [e1] at hev
   simp only
   cases e2 : evt x s m b cnt (n.drop b) (ks.drop b) with
   | inl j => rfl
   | inr d => rw [e2] at hev; cases hev
  | some d =>
   rw [e1] at hev
   simp only
   cases e2 : evt x s m b cnt (n.drop b) (ks.drop b) with
   | inl j => rw [e2] at hev; cases hev
   | inr d' =>
    rw [e2] at hev
    simp only [Option.map_some, Option.some.injEq] at hev
    subst hev
    simp only
    by_cases c1 : x.cross < crs d.1 (frN n b)
    ·rw [if_pos c1, if_pos c1]
    ·rw [if_neg c1, if_neg c1, List.drop_drop]
     have ih := vals_vok (x := x) hl S (b + cnt) d.1 (c + crs d.1 (frN n b)) (m + d.2) hc
     cases e3 : vok x n d.1 S (ks.drop (b + cnt)) with
     | none => rw [e3] at ih; exact ih
     | some r =>
      rw [e3] at ih
      simp only [Option.map_some] at ih ⊢
      rw [ih]
      simp only [Prod.mk.injEq, true_and]
      omega
theorem vok_len {x : Lm} {n : List Nt} : ∀ (S : List (Nat × Nat)) (a : Nat) (s : St) (l : List Int) (r : Co), Chain n.length a S → vok x n s S l = some r → l.length + a = n.length
 | [], a, s, l, r, hc, h => by
  have hc : a = n.length := hc
  rw [vok] at h
  split at h
  ·rename_i e; subst e; simpa using hc
  ·cases h
 | (b, cnt) :: S, a, s, l, r, hc, h => by
  obtain ⟨rfl, hcnt, hc⟩ := hc
  have hle := chain_le hc
  rw [vok] at h
  cases e1 : walk (stp x) ((n.drop b).take cnt) (s, 0) (l.take cnt) with
  | none => rw [e1] at h; simp at h
  | some d =>
   rw [e1] at h
   simp only at h
   split at h
   ·cases h
   ·rw [Option.map_eq_some_iff] at h
    obtain ⟨r', h1, _⟩ := h
    have ih := vok_len S (b + cnt) d.1 (l.drop cnt) r' hc h1
    have hwl := (walk_len e1).1
    rw [List.length_take, List.length_take, List.length_drop] at hwl
    rw [List.length_drop] at ih
    omega
theorem valid_way {x : Lm} (X : LmOk x) {n : List Nt} (hN : chkN n = 0) {Ls : List Lay} (hG : Graph x n Ls) (ks : List Int) : (∀ w ∈ WG (enR x n) 0, vwG (enR x n) 0 w = ks → valid x n ks = (0, 0, w.c, w.m) ∧ ks.length = n.length) ∧
  ((valid x n ks).2.1 = 0 → ∃ w ∈ WG (enR x n) 0, vwG (enR x n) 0 w = ks ∧ valid x n ks = (0, 0, w.c, w.m)) := by
 have hch : Chain n.length 0 (segR 0 n) := by have := chain_segR n.length 0 n (Nat.le_refl _); rwa [Nat.zero_add] at this
 have e0 := (List.getElem?_eq_some_iff.1 hG.h0).2
 have hL0 := hG.len
 have h1 : (0 : Nat) < Ls[0].1.length := by rw [e0]; simp
 have hs0 : ∀ k, st0.get k = nt0 := fun k => by unfold St.get st0; split <;> rfl
 have hv := vok_iff X hN hG (enR x n).length 0 (by omega) 0 hG.len h1 st0 (fun k hk => by rw [hs0] at hk; exact absurd hk (by decide)) (fun q hq k => .inl (by
  have : Ls[0].1[0] = st0 := by simp only [e0]; rfl
  rw [this]))
 simp only [List.drop_zero] at hv
 have hvv : ∀ (hl : ks.length = n.length), valid x n ks = vals x n ks st0 0 0 (segR 0 n) := fun hl => by
  unfold valid
  rw [if_neg (by rw [both_of X hN]; omega), if_neg (by omega)]
 constructor
 ·intro w hw hk
  have h2 := (hv ks (w.c, w.m)).2 ⟨w, hw, hk, rfl⟩
  have hl : ks.length = n.length := by have := vok_len _ _ _ _ _ hch h2; omega
  have h3 := vals_vok (x := x) hl (segR 0 n) 0 st0 0 0 hch
  rw [List.drop_zero, h2] at h3
  simp only [Int.zero_add] at h3
  exact ⟨by rw [hvv hl, h3], hl⟩
 ·intro h
  by_cases hl : ks.length = n.length
  ·have h3 := vals_vok (x := x) hl (segR 0 n) 0 st0 0 0 hch
   rw [List.drop_zero] at h3
   rw [hvv hl] at h ⊢
   cases e : vok x n st0 (segR 0 n) ks with
   | none => rw [e] at h3; simp only at h3; omega
   | some r =>
    rw [e] at h3
    simp only [Int.zero_add] at h3
    obtain ⟨w, hw, h4, h5⟩ := (hv ks r).1 e
    exact ⟨w, hw, h4, by rw [h3, ← h5]⟩
  ·exfalso
   unfold valid at h
   rw [if_neg (by rw [both_of X hN]; omega), if_pos hl] at h
   simp at h
end Go.Ab.V

namespace Go.Ab.V
def lexB : List Int → List Int → Bool
 | a :: r, b :: s => if a = b then lexB r s else decide (a < b)
 | _, _ => false
theorem lexB_app : ∀ {l l' : List Int} (r r' : List Int), lexB l l' = true → lexB (l ++ r) (l' ++ r') = true
 | a :: l, b :: l', r, r', h => by
  rw [lexB] at h
  rw [List.cons_append, List.cons_append, lexB]
  split at h
  ·rename_i e
   rw [if_pos e]
   exact lexB_app r r' h
  ·rename_i e
   rw [if_neg e]
   exact h
theorem lexB_same : ∀ (l : List Int) (r r' : List Int), lexB (l ++ r) (l ++ r') = lexB r r'
 | [], r, r' => rfl
 | a :: l, r, r' => by rw [List.cons_append, List.cons_append, lexB, if_pos rfl, lexB_same l]
theorem lexB_trans : ∀ {a b c : List Int}, lexB a b = true → lexB b c = true → lexB a c = true
 | a :: x, b :: y, c :: z, h1, h2 => by
  rw [lexB] at h1 h2
  rw [lexB]
  by_cases e1 : a = b
  ·by_cases e2 : b = c
   ·rw [if_pos e1] at h1
    rw [if_pos e2] at h2
    rw [if_pos (e1.trans e2)]
    exact lexB_trans h1 h2
   ·rw [if_neg e2] at h2
    subst e1
    rw [if_neg e2]
    exact h2
  ·rw [if_neg e1] at h1
   by_cases e2 : b = c
   ·subst e2
    rw [if_neg e1]
    exact h1
   ·rw [if_neg e2] at h2
    simp only [decide_eq_true_eq] at h1 h2
    rw [if_neg (by omega)]
    simp only [decide_eq_true_eq]
    omega
theorem lexB_irr : ∀ {a : List Int}, ¬ lexB a a = true
 | [], h => by simp [lexB] at h
 | a :: x, h => by
  rw [lexB, if_pos rfl] at h
  exact lexB_irr h
def LT (t t' : Tl) : Prop := cl (tc t) (tc t') = true ∨ (tc t = tc t' ∧ lexB (vT t) (vT t') = true)
theorem LT.trans {a b c : Tl} (h1 : LT a b) (h2 : LT b c) : LT a c := by
 have ht : ∀ {a b c : Co}, cl a b = true → cl b c = true → cl a c = true := fun {a b c} h h' => by
  rw [cl_iff] at *
  omega
 rcases h1 with h1 | ⟨e1, h1⟩ <;> rcases h2 with h2 | ⟨e2, h2⟩
 ·exact .inl (ht h1 h2)
 ·exact .inl (e2 ▸ h1)
 ·exact .inl (e1 ▸ h2)
 ·exact .inr ⟨e1.trans e2, lexB_trans h1 h2⟩
theorem LT.irr {a : Tl} (h : LT a a) : False := by
 rcases h with h | ⟨_, h⟩
 ·rw [cl_iff] at h; omega
 ·exact lexB_irr h
def SortG (G : Steps) : Prop := ∀ g ∈ G, ∀ ms ∈ g, ms.Pairwise fun a b : RMv => lexB a.ks b.ks = true
theorem ext_lt {h : RMv} {t t' : Tl} (hl : LT t t') : LT (ext h t) (ext h t') := by
 have e : ∀ t, vT (ext h t) = h.ks ++ vT t := fun t => by simp [vT, ext]
 have c : ∀ t, tc (ext h t) = (h.c + (tc t).1, h.m + (tc t).2) := fun t => rfl
 rcases hl with hl | ⟨e1, hl⟩
 ·left
  rw [cl_iff] at hl ⊢
  rw [c, c]
  simp only
  omega
 ·right
  rw [c, c, e, e, e1, lexB_same]
  exact ⟨rfl, hl⟩
theorem DT_sorted {most : Nat} : ∀ {G : Steps} (k : Nat), SortG G → (DT most G k).Pairwise LT
 | [], k, _ => by
  rw [DT]
  split
  ·exact List.pairwise_singleton _ _
  ·exact .nil
 | g :: G, k, hs => by
  have hs' : SortG G := fun g' hg => hs g' (List.mem_cons_of_mem _ hg)
  rw [DT, firstT, List.pairwise_map]
  refine picks_sorted (lt := LT) ⟨fun x y z => LT.trans, fun x y h => .inl h, ?_, ?_⟩
  ·intro j q r x y hqr hx hy
   rw [List.getD_eq_getElem?_getD, List.getElem?_map] at hx hy
   cases e : (g.getD k [])[j]? with
   | none => rw [e] at hx; simp at hx
   | some h =>
    rw [e] at hx hy
    simp only [Option.map_some, Option.getD_some, List.getElem?_map, Option.map_eq_some_iff] at hx hy
    obtain ⟨t, ht, rfl⟩ := hx
    obtain ⟨t', ht', rfl⟩ := hy
    obtain ⟨l1, e1⟩ := List.getElem?_eq_some_iff.1 ht
    obtain ⟨l2, e2⟩ := List.getElem?_eq_some_iff.1 ht'
    have := List.pairwise_iff_getElem.1 (DT_sorted (most := most) h.to hs') q r l1 l2 hqr
    rw [e1, e2] at this
    exact ext_lt this
  ·intro i j q r x y hij hx hy hc
   rw [List.getD_eq_getElem?_getD, List.getElem?_map] at hx hy
   cases e : (g.getD k [])[i]? with
   | none => rw [e] at hx; simp at hx
   | some h =>
    cases e2 : (g.getD k [])[j]? with
    | none => rw [e2] at hy; simp at hy
    | some h' =>
     rw [e] at hx
     rw [e2] at hy
     simp only [Option.map_some, Option.getD_some, List.getElem?_map, Option.map_eq_some_iff] at hx hy
     obtain ⟨t, ht, rfl⟩ := hx
     obtain ⟨t', ht', rfl⟩ := hy
     obtain ⟨l1, f1⟩ := List.getElem?_eq_some_iff.1 e
     obtain ⟨l2, f2⟩ := List.getElem?_eq_some_iff.1 e2
     have hms : g.getD k [] ∈ g := by
      rw [List.getD_eq_getElem?_getD] at l1 ⊢
      cases e3 : g[k]? with
      | none => rw [e3] at l1; simp at l1
      | some ms => exact List.mem_of_getElem? e3
     have := List.pairwise_iff_getElem.1 (hs g (List.mem_cons_self ..) _ hms) i j l1 l2 hij
     rw [f1, f2] at this
     refine .inr ⟨hc, ?_⟩
     have e4 : ∀ (h : RMv) t, vT (ext h t) = h.ks ++ vT t := fun h t => by simp [vT, ext]
     rw [e4, e4]
     exact lexB_app _ _ this
section
variable {N σ : Type} {step : σ → N → Int → Option σ} {vs : List Int}
theorem dfs_sorted (hv : vs.Pairwise (· < ·)) : ∀ (r : List N) (s : σ) (l : List Int), (dfs step vs r s l).Pairwise fun p q => lexB p.1 q.1 = true
 | [], s, l => by rw [dfs]; exact List.pairwise_singleton _ _
 | n :: r, s, l => by
  rw [dfs, List.pairwise_flatMap]
  refine ⟨fun v _ => ?_, hv.imp fun {a b} hab x hx y hy => ?_⟩
  ·cases step s n v with
   | none => exact .nil
   | some s' => exact dfs_sorted hv r s' _
  ·cases e1 : step s n a with
   | none => rw [e1] at hx; simp at hx
   | some s1 =>
    cases e2 : step s n b with
    | none => rw [e2] at hy; simp at hy
    | some s2 =>
     rw [e1] at hx
     rw [e2] at hy
     obtain ⟨q, h1, _⟩ := (dfs_mem _ _ _ _).1 hx
     obtain ⟨q', h2, _⟩ := (dfs_mem _ _ _ _).1 hy
     rw [h1, h2, List.append_assoc, List.append_assoc, lexB_same, List.cons_append, List.cons_append, lexB, if_neg (by omega)]
     simpa using hab
end
theorem vcs_sorted (x : Lm) : (vcs x).Pairwise (· < ·) := by
 unfold vcs
 rw [List.pairwise_map]
 exact List.pairwise_lt_range.imp fun {a b} h => by omega
theorem mvE_sorted (x : Lm) (n : List Nt) (i : Nat) (v : St) : (mvE x n i v).Pairwise fun a b => lexB a.ks b.ks = true := by
 unfold mvE
 split
 ·exact .nil
 ·unfold mvR
  rw [List.pairwise_flatMap]
  refine ⟨fun a _ => ?_, (dfs_sorted (vcs_sorted x) _ _ _).imp fun {a b} hab y hy z hz => ?_⟩
  ·unfold fin
   split
   ·exact .nil
   ·exact List.pairwise_singleton _ _
  ·unfold fin at hy hz
   split at hy
   ·simp at hy
   ·split at hz
    ·simp at hz
    ·rw [List.mem_singleton.1 hy, List.mem_singleton.1 hz]
     exact hab
theorem graph_sorted {x : Lm} {n : List Nt} {Ls : List Lay} (hG : Graph x n Ls) : SortG (enR x n) := fun g hg ms hms => by
 obtain ⟨i, hi, rfl⟩ := List.mem_iff_getElem.1 hg
 obtain ⟨k, v, h1, _, _, _, h5⟩ := graph_to hG hi hms
 have := mvE_sorted x n i v
 rw [h5, List.pairwise_map] at this
 exact this
def LW (G : Steps) (w w' : Wy) : Prop := cl (w.c, w.m) (w'.c, w'.m) = true ∨ ((w.c, w.m) = (w'.c, w'.m) ∧ lexB (vwG G 0 w) (vwG G 0 w') = true)
theorem WG_sorted {x : Lm} (X : LmOk x) {n : List Nt} (hN : chkN n = 0) {Ls : List Lay} (hG : Graph x n Ls) : (WG (enR x n) 0).Pairwise (LW (enR x n)) := by
 have sok := graph_sok X hN hG
 have hne := List.length_pos_iff.2 (WG_some hG)
 have hm := DT_mem (most := (WG (enR x n) 0).length) (by omega) sok (d := 0) (k := 0) (Nat.zero_le _) sok.one
 rw [List.drop_zero, List.take_length] at hm
 have hs := DT_sorted (most := (WG (enR x n) 0).length) 0 (graph_sorted hG)
 rw [hm, List.pairwise_map] at hs
 refine List.Pairwise.imp_of_mem ?_ hs
 intro w w' hw hw' h
 unfold LT at h
 rw [tlW_cost hw, tlW_cost hw', tlW_vw hw, tlW_vw hw'] at h
 exact h
end Go.Ab.V

namespace Go.Ab.V
open Go.Proofs
theorem stuck_none {x : Lm} (X : LmOk x) {n : List Nt} (hN : chkN n = 0) : ∀ (k i : Nat) (y : Lay) (Ls : List Lay) (s v : St) (l : List Int) (r : Co), i + k = (segR 0 n).length → v ∈ y.1 → NM n s → (∀ q, (segR 0 n)[i]? = some q → RS x.gap (frN n q.1) s v) →
  vok x n s ((segR 0 n).drop i) l = some r → (runL x n k i y Ls).1 ≠ 72
 | 0, i, y, Ls, s, v, l, r, _, _, _, _, _ => by
  rw [runL]
  show ¬ (0 : Int) = 72
  decide
 | k + 1, i, y, Ls, s, v, l, r, hk, hv, hm, hrs, h => by
  have hiS : i < (segR 0 n).length := by omega
  have hs := List.getElem?_eq_getElem hiS
  have hR := hrs _ hs
  rw [List.drop_eq_getElem_cons hiS] at h
  have hlF := layF_G x n i (k == 0) y.1 y.2 ([], []) (.inr (by simp))
  have hz := layG_fst x n i y.1 y.2 ([], [])
  generalize (segR 0 n)[i] = q at hs hR h
  obtain ⟨a, cnt⟩ := q
  obtain ⟨ha, hac, hns⟩ := seg_f hN hs
  have hf0 : 0 ≤ frN n a := by rw [frN_at ha]; exact (ft_lt hN (List.getElem_mem ha)).1
  rw [vok] at h
  cases e1 : walk (stp x) ((n.drop a).take cnt) (s, 0) (l.take cnt) with
  | none => rw [e1] at h; simp at h
  | some d1 =>
   rw [e1] at h
   simp only at h
   have hW1 := walk_fg X hN ((n.drop a).take cnt) s v 0 (l.take cnt) hR hm hns
   cases e2 : walk (stp x) ((n.drop a).take cnt) (v, 0) (l.take cnt) with
   | none => rw [e2] at hW1; simp only at hW1; rw [hW1] at e1; cases e1
   | some e =>
    rw [e2] at hW1
    obtain ⟨t, w1, w2, w3⟩ := hW1
    rw [e1] at w1
    cases w1
    simp only at h
    have hcr := crs_fg X.gap.1 hf0 w2
    by_cases c : x.cross < crs t (frN n a)
    ·rw [if_pos c] at h; cases h
    rw [if_neg c, Option.map_eq_some_iff] at h
    obtain ⟨r', h1, rfl⟩ := h
    have hmv := (mvE_mem (x := x) (v := v) (mv := ⟨l.take cnt, crs e.1 (frN n a), e.2, frg x n e.1 (i + 1)⟩) hs).2 ⟨_, e, e2, by rw [hcr]; exact c, rfl⟩
    have hin : frg x n e.1 (i + 1) ∈ (layG x n i y.1 y.2 ([], [])).1 := by
     rw [hz]
     exact ddA_mem.2 (.inr (List.mem_flatMap.2 ⟨v, hv, List.mem_map.2 ⟨_, hmv, rfl⟩⟩))
    rw [runL, hlF]
    generalize layG x n i y.1 y.2 ([], []) = Y at hin
    by_cases cM : (k == 0) = false ∧ 1000 < Y.1.length
    ·rw [if_pos cM]; show ¬ (2 : Int) = 72; decide
    ·rw [if_neg cM]
     simp only
     rw [if_neg (fun e0 => by rw [e0] at hin; simp at hin)]
     refine stuck_none X hN k (i + 1) Y (Ls ++ [y]) t _ (l.drop cnt) r' (by omega) hin w3 (fun q hq => ?_) h1
     unfold frg
     rw [hq]
     obtain ⟨b, d⟩ := q
     exact fgt_rs (seg_mono hN hs hq) w2
theorem err72 {x : Lm} (X : LmOk x) {n : List Nt} (hN : chkN n = 0) (h : errR x n = 72) (ks : List Int) : (valid x n ks).2.1 ≠ 0 := by
 intro h0
 have hch : Chain n.length 0 (segR 0 n) := by have := chain_segR n.length 0 n (Nat.le_refl _); rwa [Nat.zero_add] at this
 have hl := valid_len h0
 have hs0 : ∀ k, st0.get k = nt0 := fun k => by unfold St.get st0; split <;> rfl
 unfold valid at h0
 rw [if_neg (by rw [both_of X hN]; omega), if_neg (by omega)] at h0
 have h3 := vals_vok (x := x) hl (segR 0 n) 0 st0 0 0 hch
 rw [List.drop_zero] at h3
 cases e : vok x n st0 (segR 0 n) ks with
 | none => rw [e] at h3; simp only at h3; omega
 | some r =>
  refine stuck_none X hN (segR 0 n).length 0 ([st0], [1]) [] st0 st0 ks r (by omega) (List.mem_singleton.2 rfl) (fun k hk => by rw [hs0] at hk; exact absurd hk (by decide)) (fun q hq k => .inl rfl) (by rw [List.drop_zero]; exact e) h
def soonB (l : List Int) (c m : Int) (l' : List Int) (c' m' : Int) : Bool := if c ≠ c' then decide (c < c') else if m ≠ m' then decide (m < m') else lexB l l'
theorem soon_lw {G : Steps} {w w' : Wy} (h : LW G w w') : soonB (vwG G 0 w) w.c w.m (vwG G 0 w') w'.c w'.m = true ∧ soonB (vwG G 0 w') w'.c w'.m (vwG G 0 w) w.c w.m = false := by
 unfold soonB
 rcases h with h | ⟨h1, h2⟩
 ·rw [cl_iff] at h
  simp only at h
  by_cases c : w.c = w'.c
  ·have a1 : ¬ (w.c ≠ w'.c) := by omega
   have a2 : ¬ (w'.c ≠ w.c) := by omega
   have a3 : w.m ≠ w'.m := by omega
   have a4 : w'.m ≠ w.m := by omega
   rw [if_neg a1, if_neg a2, if_pos a3, if_pos a4]
   simp only [decide_eq_true_eq, decide_eq_false_iff_not]
   omega
  ·have a2 : w'.c ≠ w.c := by omega
   rw [if_pos c, if_pos a2]
   simp only [decide_eq_true_eq, decide_eq_false_iff_not]
   omega
 ·simp only [Prod.mk.injEq] at h1
  have a1 : ¬ (w.c ≠ w'.c) := by omega
  have a2 : ¬ (w'.c ≠ w.c) := by omega
  have a3 : ¬ (w.m ≠ w'.m) := by omega
  have a4 : ¬ (w'.m ≠ w.m) := by omega
  rw [if_neg a1, if_neg a2, if_neg a3, if_neg a4]
  refine ⟨h2, ?_⟩
  cases e : lexB (vwG G 0 w') (vwG G 0 w) with
  | false => rfl
  | true => exact absurd (lexB_trans h2 e) lexB_irr
theorem lexB_drop : ∀ {l l' : List Int} {k : Nat} (h : k < l.length) (h' : k < l'.length), (∀ j (hj : j < k), l[j]'(by omega) = l'[j]'(by omega)) → lexB l l' = if l[k] = l'[k] then lexB (l.drop (k + 1)) (l'.drop (k + 1)) else decide (l[k] < l'[k])
 | a :: l, b :: l', 0, _, _, _ => by rw [lexB]; rfl
 | a :: l, b :: l', k + 1, h, h', hj => by
  have e := hj 0 (by omega)
  simp only [List.getElem_cons_zero] at e
  rw [lexB, if_pos e]
  exact lexB_drop (by simpa using h) (by simpa using h') fun j hjk => by
   have := hj (j + 1) (by omega)
   simpa using this
theorem lexB_end : ∀ {l l' : List Int}, (∀ j (h : j < l.length) (h' : j < l'.length), l[j] = l'[j]) → lexB l l' = false
 | [], l', _ => by cases l' <;> rfl
 | a :: l, [], _ => rfl
 | a :: l, b :: l', h => by
  have e := h 0 (by simp) (by simp)
  simp only [List.getElem_cons_zero] at e
  rw [lexB, if_pos e]
  exact lexB_end fun j h1 h2 => by
   have := h (j + 1) (by simpa using h1) (by simpa using h2)
   simpa using this
def A18 : Ann := fun r => match r with
 | 0 => { slots := [(0, 0), (1, 1)] }
 | _ => {}
set_option maxHeartbeats 8000000 in
set_option maxRecDepth 100000 in
theorem sooner18 (l : List Int) (c m : Int) (l' : List Int) (c' m' : Int) (hl : l.length ≤ 9223372036854775806) (hl' : l'.length ≤ 9223372036854775806) : PRet C.P 18 [.agg [intsA l, .int .i64 c, .int .i64 m], .agg [intsA l', .int .i64 c', .int .i64 m']] (.bool (soonB l c m l' c' m')) := by
 unfold soonB
 by_cases c1 : c ≠ c'
 ·rw [if_pos c1]
  refine pret_of ok mixed (A := A18) 2 Try.func18 rfl ?_
  (repeat' (first | exact rfl | ((conv => whnf); first | exact rfl | exact ⟨rfl, rfl⟩ | refine dk (by kernel_rfl) ?_ | refine pk (by kernel_rfl) ?_ | refine ⟨rfl, ?_⟩ | refine ⟨by (first | omega | (simp (disch := omega) only [wrapI]; first | omega | (simp; omega)) | (simp; omega)), ?_⟩ | (intro ep) | (refine ifB (fun hb => ?_) (fun hb => ?_) <;> (try simp only [qs] at hb) <;> (try simp (disch := omega) only [wrapI] at hb) <;> (try (exfalso; omega))) | fail)))
 rw [if_neg c1]
 have c1 : c = c' := Classical.not_not.1 c1
 by_cases c2 : m ≠ m'
 ·rw [if_pos c2]
  refine pret_of ok mixed (A := A18) 2 Try.func18 rfl ?_
  (repeat' (first | exact rfl | ((conv => whnf); first | exact rfl | exact ⟨rfl, rfl⟩ | refine dk (by kernel_rfl) ?_ | refine pk (by kernel_rfl) ?_ | refine ⟨rfl, ?_⟩ | refine ⟨by (first | omega | (simp (disch := omega) only [wrapI]; first | omega | (simp; omega)) | (simp; omega)), ?_⟩ | (intro ep) | (refine ifB (fun hb => ?_) (fun hb => ?_) <;> (try simp only [qs] at hb) <;> (try simp (disch := omega) only [wrapI] at hb) <;> (try (exfalso; omega))) | fail)))
 rw [if_neg c2]
 have c2 : m = m' := Classical.not_not.1 c2
 obtain ⟨B, hB⟩ : ∃ B, B = lexB l l' := ⟨_, rfl⟩
 rw [← hB]
 refine pret_of ok mixed (A := A18) 2 Try.func18 rfl ?_
 (repeat' (first | exact rfl | ((conv => whnf); first | exact rfl | exact ⟨rfl, rfl⟩ | refine dk (by kernel_rfl) ?_ | refine pk (by kernel_rfl) ?_ | refine ⟨rfl, ?_⟩ | refine ⟨by (first | omega | (simp (disch := omega) only [wrapI]; first | omega | (simp; omega)) | (simp; omega)), ?_⟩ | (intro ep) | (refine ifB (fun hb => ?_) (fun hb => ?_) <;> (try simp only [qs] at hb) <;> (try simp (disch := omega) only [wrapI] at hb) <;> (try (exfalso; omega))) | fail)))
 all_goals (conv => whnf)
 rename_i q0 _
 refine loopY ok mixed (A := A18) [2, 3, 5] [0, 1] (S := { k : Nat // (k ≤ l.length ∧ k ≤ l'.length) ∧ ∀ j (h : j < l.length) (h' : j < l'.length), j < k → l[j] = l'[j] })
  (fr := fun k => frOf 0 62 [(2, .optr (.s 0) q0 3 0 0), (3, .optr (.s 1) ep 3 0 0), (5, .int .i64 (k.1 : Int))])
  (h := fun _ => ⟨[.vec q0 [[intsA l, .int .i64 c, .int .i64 m]], .vec ep [[intsA l', .int .i64 c', .int .i64 m']]], []⟩) (μ := fun k => l.length - k.1)
  ⟨0, ⟨Nat.zero_le _, Nat.zero_le _⟩, fun j h h' hj => absurd hj (Nat.not_lt_zero _)⟩ ?_ ?_
  [] [] (S' := { _u : Unit // B = false }) (X := fun _ => 0) (frX := fun _ => frOf 0 62 []) (hX := fun _ => ⟨[.hole, .hole], []⟩)
  [4] [] (S2 := Unit) (frR := fun _ => frOf 0 62 [(4, .bool B)]) (hR := fun _ => ⟨[.hole, .hole], []⟩) ?_ ?_ ?_
 ·exact rfl
 ·exact rfl
 ·rintro ⟨k, ⟨hk1, hk2⟩, hk⟩
  show aexR _ _ _ (frOf 0 62 [(2, .optr (.s 0) q0 3 0 0), (3, .optr (.s 1) ep 3 0 0), (5, .int .i64 (k : Int))])
   ⟨[.vec q0 [[intsA l, .int .i64 c, .int .i64 m]], .vec ep [[intsA l', .int .i64 c', .int .i64 m']]], []⟩ _
  by_cases g : k < l.length ∧ k < l'.length
  ·obtain ⟨g1, g2⟩ := g
   have r1 := intsR g1
   have r2 := intsR g2
   have hx := lexB_drop g1 g2 fun j hj => hk j (by omega) (by omega) hj
   rw [← hB] at hx
   have hnext : l[k] = l'[k] → ∀ j (h : j < l.length) (h' : j < l'.length), j < k + 1 → l[j] = l'[j] := fun h j hj hj' hjk => by
    by_cases e : j = k
    ·subst e; exact h
    ·exact hk j hj hj' (by omega)
   generalize l[k] = u at r1 hx hnext
   generalize l'[k] = u' at r2 hx hnext
   by_cases e : u = u'
   ·(repeat' (first | exact rfl | ((conv => whnf); first | refine optS r1 ?_ | refine optS r2 ?_ | exact rfl | exact ⟨rfl, rfl⟩ | refine dk (by kernel_rfl) ?_ | refine pk (by kernel_rfl) ?_ | refine ⟨rfl, ?_⟩ | refine ⟨by (first | omega | (simp (disch := omega) only [wrapI]; first | omega | (simp; omega)) | (simp; omega)), ?_⟩ | (intro ep) | (refine ifB (fun hb => ?_) (fun hb => ?_) <;> (try simp only [qs] at hb) <;> (try simp (disch := omega) only [wrapI] at hb) <;> (try (exfalso; omega))) | fail)))
    all_goals (conv => whnf)
    exact back_of ⟨k + 1, ⟨g1, g2⟩, hnext e⟩ ⟨by (first | exact rfl | (simp (disch := omega) only [wrapI]; exact rfl)), rfl, by simp only; omega⟩
   ·rw [if_neg e] at hx
    (repeat' (first | exact rfl | ((conv => whnf); first | refine optS r1 ?_ | refine optS r2 ?_ | exact rfl | exact ⟨rfl, rfl⟩ | refine dk (by kernel_rfl) ?_ | refine pk (by kernel_rfl) ?_ | refine ⟨rfl, ?_⟩ | refine ⟨by (first | omega | (simp (disch := omega) only [wrapI]; first | omega | (simp; omega)) | (simp; omega)), ?_⟩ | (intro ep) | (refine ifB (fun hb => ?_) (fun hb => ?_) <;> (try simp only [qs] at hb) <;> (try simp (disch := omega) only [wrapI] at hb) <;> (try (exfalso; omega))) | fail)))
    all_goals (conv => whnf)
    rw [hx]
    exact back_of () ⟨rfl, rfl⟩
  ·have hBf : B = false := by rw [hB]; exact lexB_end fun j h h' => hk j h h' (by omega)
   by_cases g1 : k < l.length
   ·have g2 : ¬ k < l'.length := fun h => g ⟨g1, h⟩
    (repeat' (first | exact rfl | ((conv => whnf); first | exact rfl | exact ⟨rfl, rfl⟩ | refine dk (by kernel_rfl) ?_ | refine pk (by kernel_rfl) ?_ | refine ⟨rfl, ?_⟩ | refine ⟨by (first | omega | (simp (disch := omega) only [wrapI]; first | omega | (simp; omega)) | (simp; omega)), ?_⟩ | (intro ep) | (refine ifB (fun hb => ?_) (fun hb => ?_) <;> (try simp only [qs] at hb) <;> (try simp (disch := omega) only [wrapI] at hb) <;> (try (exfalso; omega))) | fail)))
    all_goals (conv => whnf)
    exact back_of ⟨(), hBf⟩ ⟨rfl, rfl, rfl⟩
   ·(repeat' (first | exact rfl | ((conv => whnf); first | exact rfl | exact ⟨rfl, rfl⟩ | refine dk (by kernel_rfl) ?_ | refine pk (by kernel_rfl) ?_ | refine ⟨rfl, ?_⟩ | refine ⟨by (first | omega | (simp (disch := omega) only [wrapI]; first | omega | (simp; omega)) | (simp; omega)), ?_⟩ | (intro ep) | (refine ifB (fun hb => ?_) (fun hb => ?_) <;> (try simp only [qs] at hb) <;> (try simp (disch := omega) only [wrapI] at hb) <;> (try (exfalso; omega))) | fail)))
    all_goals (conv => whnf)
    exact back_of ⟨(), hBf⟩ ⟨rfl, rfl, rfl⟩
 ·rintro ⟨⟩
  (repeat' (first | exact rfl | ((conv => whnf); first | exact rfl | exact ⟨rfl, rfl⟩ | refine dk (by kernel_rfl) ?_ | refine pk (by kernel_rfl) ?_ | refine ⟨rfl, ?_⟩ | refine ⟨by (first | omega | (simp (disch := omega) only [wrapI]; first | omega | (simp; omega)) | (simp; omega)), ?_⟩ | (intro ep) | (refine ifB (fun hb => ?_) (fun hb => ?_) <;> (try simp only [qs] at hb) <;> (try simp (disch := omega) only [wrapI] at hb) <;> (try (exfalso; omega))) | fail)))
 ·rintro ⟨⟨⟩, hBf⟩
  rw [hBf]
  (repeat' (first | exact rfl | ((conv => whnf); first | exact rfl | exact ⟨rfl, rfl⟩ | refine dk (by kernel_rfl) ?_ | refine pk (by kernel_rfl) ?_ | refine ⟨rfl, ?_⟩ | refine ⟨by (first | omega | (simp (disch := omega) only [wrapI]; first | omega | (simp; omega)) | (simp; omega)), ?_⟩ | (intro ep) | (refine ifB (fun hb => ?_) (fun hb => ?_) <;> (try simp only [qs] at hb) <;> (try simp (disch := omega) only [wrapI] at hb) <;> (try (exfalso; omega))) | fail)))
set_option maxHeartbeats 8000000 in
set_option maxRecDepth 100000 in
theorem same19g (l l' : List Int) (hl : l.length ≤ 9223372036854775806) (hl' : l'.length ≤ 9223372036854775807) : PRet C.P 19 [intsA l, intsA l'] (.bool (decide (l = l'))) := by
 by_cases c0 : ¬ l.length = l'.length
 ·rw [decide_eq_false fun h => c0 (congrArg List.length h)]
  refine pret_of ok mixed (A := A19) 0 Try.func19 rfl ?_
  (repeat' (first | exact rfl | ((conv => whnf); first | exact rfl | exact ⟨rfl, rfl⟩ | refine dk (by kernel_rfl) ?_ | refine pk (by kernel_rfl) ?_ | refine ⟨rfl, ?_⟩ | refine ⟨by (first | omega | (simp (disch := omega) only [wrapI]; first | omega | (simp; omega)) | (simp; omega)), ?_⟩ | (intro ep) | (refine ifB (fun hb => ?_) (fun hb => ?_) <;> (try simp only [qs] at hb) <;> (try simp (disch := omega) only [wrapI] at hb) <;> (try (exfalso; omega))) | fail)))
 have c0 : l.length = l'.length := Classical.not_not.1 c0
 obtain ⟨B, hB⟩ : ∃ B, B = decide (l = l') := ⟨_, rfl⟩
 rw [← hB]
 refine pret_of ok mixed (A := A19) 0 Try.func19 rfl ?_
 (repeat' (first | exact rfl | ((conv => whnf); first | exact rfl | exact ⟨rfl, rfl⟩ | refine dk (by kernel_rfl) ?_ | refine pk (by kernel_rfl) ?_ | refine ⟨rfl, ?_⟩ | refine ⟨by (first | omega | (simp (disch := omega) only [wrapI]; first | omega | (simp; omega)) | (simp; omega)), ?_⟩ | (intro ep) | (refine ifB (fun hb => ?_) (fun hb => ?_) <;> (try simp only [qs] at hb) <;> (try simp (disch := omega) only [wrapI] at hb) <;> (try (exfalso; omega))) | fail)))
 all_goals (conv => whnf)
 refine loopY ok mixed (A := A19) [0, 1, 5] [] (S := { k : Nat // k ≤ l.length ∧ ∀ j (h : j < l.length) (h' : j < l'.length), j < k → l[j] = l'[j] })
  (fr := fun k => frOf 0 26 [(0, intsA l), (1, intsA l'), (5, .int .i64 (k.1 : Int))])
  (h := fun _ => ⟨[], []⟩) (μ := fun k => l.length - k.1) ⟨0, Nat.zero_le _, fun j h h' hj => absurd hj (Nat.not_lt_zero _)⟩ ?_ ?_
  [] [] (S' := { _u : Unit // B = true }) (X := fun _ => 0) (frX := fun _ => frOf 0 26 []) (hX := fun _ => ⟨[], []⟩)
  [4] [] (S2 := { _u : Unit // B = false }) (frR := fun _ => frOf 0 26 [(4, .bool false)]) (hR := fun _ => ⟨[], []⟩) ?_ ?_ ?_
 ·exact rfl
 ·exact rfl
 ·rintro ⟨k, hk1, hk⟩
  show aexR _ _ _ (frOf 0 26 [(0, intsA l), (1, intsA l'), (5, .int .i64 (k : Int))]) ⟨[], []⟩ _
  by_cases g1 : k < l.length
  ·have g2 : k < l'.length := by omega
   have r1 := intsR g1
   have r2 := intsR g2
   have hne : l[k] ≠ l'[k] → B = false := fun h => by
    rw [hB]
    refine decide_eq_false fun e => h ?_
    subst e
    rfl
   have hnext : l[k] = l'[k] → ∀ j (h : j < l.length) (h' : j < l'.length), j < k + 1 → l[j] = l'[j] := fun h j hj hj' hjk => by
    by_cases e : j = k
    ·subst e; exact h
    ·exact hk j hj hj' (by omega)
   generalize l[k] = u at r1 hne hnext
   generalize l'[k] = u' at r2 hne hnext
   by_cases e : u = u'
   ·(repeat' (first | exact rfl | ((conv => whnf); first | refine optS r1 ?_ | refine optS r2 ?_ | exact rfl | exact ⟨rfl, rfl⟩ | refine dk (by kernel_rfl) ?_ | refine pk (by kernel_rfl) ?_ | refine ⟨rfl, ?_⟩ | refine ⟨by (first | omega | (simp (disch := omega) only [wrapI]; first | omega | (simp; omega)) | (simp; omega)), ?_⟩ | (intro ep) | (refine ifB (fun hb => ?_) (fun hb => ?_) <;> (try simp only [qs] at hb) <;> (try simp (disch := omega) only [wrapI] at hb) <;> (try (exfalso; omega))) | fail)))
    all_goals (conv => whnf)
    exact back_of ⟨k + 1, g1, hnext e⟩ ⟨by (first | exact rfl | (simp (disch := omega) only [wrapI]; exact rfl)), rfl, by simp only; omega⟩
   ·(repeat' (first | exact rfl | ((conv => whnf); first | refine optS r1 ?_ | refine optS r2 ?_ | exact rfl | exact ⟨rfl, rfl⟩ | refine dk (by kernel_rfl) ?_ | refine pk (by kernel_rfl) ?_ | refine ⟨rfl, ?_⟩ | refine ⟨by (first | omega | (simp (disch := omega) only [wrapI]; first | omega | (simp; omega)) | (simp; omega)), ?_⟩ | (intro ep) | (refine ifB (fun hb => ?_) (fun hb => ?_) <;> (try simp only [qs] at hb) <;> (try simp (disch := omega) only [wrapI] at hb) <;> (try (exfalso; omega))) | fail)))
    all_goals (conv => whnf)
    exact back_of ⟨(), hne e⟩ ⟨rfl, rfl⟩
  ·(repeat' (first | exact rfl | ((conv => whnf); first | exact rfl | exact ⟨rfl, rfl⟩ | refine dk (by kernel_rfl) ?_ | refine pk (by kernel_rfl) ?_ | refine ⟨rfl, ?_⟩ | refine ⟨by (first | omega | (simp (disch := omega) only [wrapI]; first | omega | (simp; omega)) | (simp; omega)), ?_⟩ | (intro ep) | (refine ifB (fun hb => ?_) (fun hb => ?_) <;> (try simp only [qs] at hb) <;> (try simp (disch := omega) only [wrapI] at hb) <;> (try (exfalso; omega))) | fail)))
   all_goals (conv => whnf)
   exact back_of ⟨(), by rw [hB]; exact decide_eq_true (List.ext_getElem c0 fun j h h' => hk j h h' (by omega))⟩ ⟨rfl, rfl, rfl⟩
 ·rintro ⟨⟨⟩, h⟩
  rw [h]
  (repeat' (first | exact rfl | ((conv => whnf); first | exact rfl | exact ⟨rfl, rfl⟩ | refine dk (by kernel_rfl) ?_ | refine pk (by kernel_rfl) ?_ | refine ⟨rfl, ?_⟩ | refine ⟨by (first | omega | (simp (disch := omega) only [wrapI]; first | omega | (simp; omega)) | (simp; omega)), ?_⟩ | (intro ep) | (refine ifB (fun hb => ?_) (fun hb => ?_) <;> (try simp only [qs] at hb) <;> (try simp (disch := omega) only [wrapI] at hb) <;> (try (exfalso; omega))) | fail)))
 ·rintro ⟨⟨⟩, h⟩
  rw [h]
  (repeat' (first | exact rfl | ((conv => whnf); first | exact rfl | exact ⟨rfl, rfl⟩ | refine dk (by kernel_rfl) ?_ | refine pk (by kernel_rfl) ?_ | refine ⟨rfl, ?_⟩ | refine ⟨by (first | omega | (simp (disch := omega) only [wrapI]; first | omega | (simp; omega)) | (simp; omega)), ?_⟩ | (intro ep) | (refine ifB (fun hb => ?_) (fun hb => ?_) <;> (try simp only [qs] at hb) <;> (try simp (disch := omega) only [wrapI] at hb) <;> (try (exfalso; omega))) | fail)))
end Go.Ab.V

namespace Go.Ab.V
open Go.Proofs
theorem listV_full (x : Lm) (n : List Nt) (most : Int) (ks : List Int) : (∃ e : Int, e ≠ 0 ∧ listV x n most = .tup [.nils, .int .i64 e] ∧ (e = 72 → (valid x n ks).2.1 ≠ 0)) ∨
  (∃ (mo : Nat) (Ls : List Lay), most = (mo : Int) ∧ 1 ≤ mo ∧ mo ≤ 64 ∧ LmOk x ∧ chkN n = 0 ∧ Graph x n Ls ∧ listV x n most = .tup [voisA (voiL (enR x n) mo), .int .i64 0]) := by
 unfold listV
 by_cases c1 : both x n ≠ 0
 ·rw [if_pos c1]
  refine .inl ⟨_, c1, rfl, fun _ => ?_⟩
  unfold valid
  rw [if_pos c1]
  exact c1
 rw [if_neg c1]
 have c1 : both x n = 0 := by omega
 obtain ⟨X, hN⟩ := both_zero c1
 by_cases c2 : ¬ (1 ≤ most ∧ most ≤ 64)
 ·rw [if_pos c2]
  exact .inl ⟨1, by decide, rfl, fun h => absurd h (by decide)⟩
 rw [if_neg c2]
 by_cases c3 : errR x n ≠ 0
 ·rw [if_pos c3]
  exact .inl ⟨_, c3, rfl, fun h => err72 X hN h ks⟩
 rw [if_neg c3]
 obtain ⟨Ls, hG⟩ := graph_of X hN (by omega)
 exact .inr ⟨most.toNat, Ls, by omega, by omega, by omega, X, hN, hG, rfl⟩
def A4 : Ann := fun r => match r with
 | 0 => { slots := [(0, 0)] }
 | 4 => { slots := [(10, 1)] }
 | 13 => { slots := [(14, 2)] }
 | _ => {}
def ldB (G : Steps) (ks : List Int) (i : Nat) : Bool := ((WG G 0).take i).any fun w => decide (vwG G 0 w = ks)
theorem ldB_step {G : Steps} {ks : List Int} {i : Nat} {w : Wy} (h : (WG G 0)[i]? = some w) : ldB G ks (i + 1) = (ldB G ks i || decide (vwG G 0 w = ks)) := by
 unfold ldB
 rw [List.take_add_one, h, List.any_append]
 simp
set_option maxHeartbeats 16000000 in
set_option maxRecDepth 100000 in
theorem law_listed (x : Lm) (n : List Nt) (most : Int) (ks : List Int) (h1 : x.lo.length ≤ 9223372036854775807) (h2 : x.hi.length ≤ 9223372036854775807) (h3 : n.length ≤ 9223372036854775807) (h4 : ks.length ≤ 9223372036854775807) : ACalls C.P 4 [caseA x n, .int .i64 most, intsA ks] Heap.nil fun r _ => r = .bool true := by
 have hM := many10 n 24 (by omega) h3
 have a1 := list12 x n most h1 h2 h3
 have a2 := valid26 x n ks h1 h2 h3 h4
 cases hb : manyB n.length 24 with
 | true =>
  rw [hb] at hM
  refine fn_of ok mixed (A := A4) 3 Try.func4 rfl ?_
  (repeat' (first | exact rfl | ((conv => whnf); first | refine ⟨_, hM, ?_⟩ | refine ⟨_, works2, ?_⟩ | exact rfl | exact ⟨rfl, rfl⟩ | refine dk (by kernel_rfl) ?_ | refine pk (by kernel_rfl) ?_ | refine ⟨rfl, ?_⟩ | refine ⟨by (first | omega | (simp (disch := omega) only [wrapI]; first | omega | (simp; omega)) | (simp; omega)), ?_⟩ | (intro ep) | (refine ifB (fun hb => ?_) (fun hb => ?_) <;> (try simp only [qs] at hb) <;> (try simp (disch := omega) only [wrapI] at hb) <;> (try (exfalso; omega))) | fail)))
 | false =>
 rw [hb] at hM
 rcases listV_full x n most ks with ⟨e, he, hV, he2⟩ | ⟨mo, Ls, rfl, hm1, hm2, X, hN, hG, hV⟩
 ·rw [hV] at a1
  unfold valV at a2
  generalize valid x n ks = R at a2 he2
  obtain ⟨R1, R2, R3, R4⟩ := R
  simp only at a2 he2
  obtain ⟨A, hA⟩ : ∃ A, A = (if R2 = 0 then intsA ks else .nils) := ⟨_, rfl⟩
  rw [← hA] at a2
  by_cases c : e = 72
  ·have he2 := he2 c
   subst c
   refine fn_of ok mixed (A := A4) 3 Try.func4 rfl ?_
   (repeat' (first | exact rfl | ((conv => whnf); first | refine ⟨_, hM, ?_⟩ | refine ⟨_, a1, ?_⟩ | refine ⟨_, a2, ?_⟩ | refine ⟨_, works2, ?_⟩ | exact rfl | exact ⟨rfl, rfl⟩ | refine dk (by kernel_rfl) ?_ | refine pk (by kernel_rfl) ?_ | refine ⟨rfl, ?_⟩ | refine ⟨by (first | omega | (simp (disch := omega) only [wrapI]; first | omega | (simp; omega)) | (simp; omega)), ?_⟩ | (intro ep) | (refine ifB (fun hb => ?_) (fun hb => ?_) <;> (try simp only [qs] at hb) <;> (try simp (disch := omega) only [wrapI] at hb) <;> (try (exfalso; omega))) | fail)))
  ·refine fn_of ok mixed (A := A4) 3 Try.func4 rfl ?_
   (repeat' (first | exact rfl | ((conv => whnf); first | refine ⟨_, hM, ?_⟩ | refine ⟨_, a1, ?_⟩ | refine ⟨_, a2, ?_⟩ | refine ⟨_, works2, ?_⟩ | exact rfl | exact ⟨rfl, rfl⟩ | refine dk (by kernel_rfl) ?_ | refine pk (by kernel_rfl) ?_ | refine ⟨rfl, ?_⟩ | refine ⟨by (first | omega | (simp (disch := omega) only [wrapI]; first | omega | (simp; omega)) | (simp; omega)), ?_⟩ | (intro ep) | (refine ifB (fun hb => ?_) (fun hb => ?_) <;> (try simp only [qs] at hb) <;> (try simp (disch := omega) only [wrapI] at hb) <;> (try (exfalso; omega))) | fail)))
 ·rw [hV] at a1
  unfold voisA at a1
  have hsok := graph_sok X hN hG
  have hVk := voiL_ok hsok (most := mo) ⟨hm1, hm2⟩
  have hpos := voiL_pos hG hm1
  have hle := voiL_len (G := enR x n) (most := mo)
  have hsrt := WG_sorted X hN hG
  have hvw := fun l => valid_way X hN hG l
  have hnl := (ntsOk_of hN).len
  have hget : ∀ i, i < (voiL (enR x n) mo).length → ∃ w, (WG (enR x n) 0)[i]? = some w ∧ (voiL (enR x n) mo)[i]? = some (voiR (vwG (enR x n) 0 w) w.c w.m) ∧ (vwG (enR x n) 0 w).length = n.length ∧ valid x n (vwG (enR x n) 0 w) = (0, 0, w.c, w.m) := fun i hi => by
   unfold voiL at hi
   rw [List.length_map, List.length_take] at hi
   have hw := List.getElem?_eq_getElem (l := WG (enR x n) 0) (i := i) (by omega)
   refine ⟨_, hw, ?_, ?_⟩
   ·unfold voiL
    rw [List.getElem?_map, List.getElem?_take, if_pos (by omega), hw]
    rfl
   ·have := (hvw _).1 _ (List.getElem_mem (l := WG (enR x n) 0) (n := i) (by omega)) rfl
    exact ⟨this.2, this.1⟩
  have hlw : ∀ i j w w', i < j → (WG (enR x n) 0)[i]? = some w → (WG (enR x n) 0)[j]? = some w' → LW (enR x n) w w' := fun i j w w' hij hi hj => by
   obtain ⟨l1, rfl⟩ := List.getElem?_eq_some_iff.1 hi
   obtain ⟨l2, rfl⟩ := List.getElem?_eq_some_iff.1 hj
   exact List.pairwise_iff_getElem.1 hsrt i j l1 l2 hij
  have hVlen : (voiL (enR x n) mo).length = min mo (WG (enR x n) 0).length := by unfold voiL; rw [List.length_map, List.length_take]
  have hks := (hvw ks).2
  obtain ⟨V, hVe⟩ : ∃ V, V = voiL (enR x n) mo := ⟨_, rfl⟩
  rw [← hVe] at a1 hpos hle hget hVlen hVk
  have hv64 := hVk.len
  -- the assignment that is asked for
  obtain ⟨A, c0, m0, p0, f0, hva, hown⟩ : ∃ (A : AV) (c0 m0 p0 f0 : Int), valV ks (valid x n ks) = .tup [.agg [A, .int .i64 c0, .int .i64 m0], .int .i64 p0, .int .i64 f0] ∧
    (f0 = 0 → ks.length = n.length ∧ A = intsA ks ∧ ∃ (w : Wy) (p : Nat), (WG (enR x n) 0)[p]? = some w ∧ vwG (enR x n) 0 w = ks ∧ c0 = w.c ∧ m0 = w.m) := by
   refine ⟨_, _, _, _, _, rfl, fun hf => ?_⟩
   obtain ⟨w, hw, hwk, hwv⟩ := hks hf
   obtain ⟨p, hp⟩ := List.mem_iff_getElem?.1 hw
   exact ⟨valid_len hf, by rw [if_pos hf], w, p, hp, hwk, by rw [hwv], by rw [hwv]⟩
  rw [hva] at a2
  refine fn_of ok mixed (A := A4) 3 Try.func4 rfl ?_
  (repeat' (first | exact rfl | ((conv => whnf); first | refine ⟨_, hM, ?_⟩ | refine ⟨_, a1, ?_⟩ | refine ⟨_, a2, ?_⟩ | exact rfl | exact ⟨rfl, rfl⟩ | refine dk (by kernel_rfl) ?_ | refine pk (by kernel_rfl) ?_ | refine ⟨rfl, ?_⟩ | refine ⟨by (first | omega | (simp (disch := omega) only [wrapI]; first | omega | (simp; omega)) | (simp; omega)), ?_⟩ | (intro ep) | (refine ifB (fun hb => ?_) (fun hb => ?_) <;> (try simp only [qs] at hb) <;> (try simp (disch := omega) only [wrapI] at hb) <;> (try (exfalso; omega))) | fail)))
  all_goals (conv => whnf)
  rename_i q0 _
  refine loopY ok mixed (A := A4) [1, 2, 3, 7, 9, 11, 12, 13] [0, 1] (S := { i : Nat // i ≤ V.length })
   (fr := fun i => frOf 0 141 [(1, .int .i64 (mo : Int)), (2, intsA ks), (3, .optr (.s 0) q0 6 0 0), (7, .lslc 3 V 0 V.length false), (9, .optr (.s 1) ep 3 0 0), (11, .int .i64 f0), (12, .bool (ldB (enR x n) ks i.1)), (13, .int .i64 (i.1 : Int))])
   (h := fun _ => ⟨[.vec q0 [caseR x n], .vec ep [[A, .int .i64 c0, .int .i64 m0]], .hole], []⟩) (μ := fun i => V.length - i.1) ⟨0, Nat.zero_le _⟩ ?_ ?_
   [1, 7, 9, 11, 12] [1] (S' := Unit) (X := fun _ => 0) (frX := fun _ => frOf 0 141 [(1, .int .i64 (mo : Int)), (7, .lslc 3 V 0 V.length false), (9, .optr (.s 1) ep 3 0 0), (11, .int .i64 f0), (12, .bool (ldB (enR x n) ks V.length))])
   (hX := fun _ => ⟨[.hole, .vec ep [[A, .int .i64 c0, .int .i64 m0]], .hole], []⟩)
   [] [] (S2 := Empty) (frR := fun _ => []) (hR := fun _ => Heap.nil) ?_ (fun z => z.elim) ?_
  ·exact rfl
  ·exact rfl
  ·rintro ⟨i, hi⟩
   show aexR _ _ _ (frOf 0 141 [(1, .int .i64 (mo : Int)), (2, intsA ks), (3, .optr (.s 0) q0 6 0 0), (7, .lslc 3 V 0 V.length false), (9, .optr (.s 1) ep 3 0 0), (11, .int .i64 f0), (12, .bool (ldB (enR x n) ks i)), (13, .int .i64 (i : Int))])
    ⟨[.vec q0 [caseR x n], .vec ep [[A, .int .i64 c0, .int .i64 m0]], .hole], []⟩ _
   by_cases gi : i < V.length
   ·obtain ⟨w, hw, hrow, hwl, hwv⟩ := hget i gi
    have hrow : V[0 + ((i : Nat) : Int).toNat]? = some [intsA (vwG (enR x n) 0 w), .int .i64 w.c, .int .i64 w.m] := by rw [Nat.zero_add, Int.toNat_natCast]; exact hrow
    have hstep := ldB_step (ks := ks) hw
    have b1 := valid26 x n (vwG (enR x n) 0 w) h1 h2 h3 (by omega)
    rw [hwv] at b1
    unfold valV at b1
    simp only [if_true] at b1
    have b2 := same14 w.c w.m (same19 (vwG (enR x n) 0 w) (by omega)) (.inl ⟨_, rfl⟩)
    have b3 := same19g (vwG (enR x n) 0 w) ks (by omega) h4
    obtain ⟨bd, hbd⟩ : ∃ bd, bd = decide (vwG (enR x n) 0 w = ks) := ⟨_, rfl⟩
    rw [← hbd] at b3 hstep
    by_cases g0 : 0 < i
    ·obtain ⟨i', rfl⟩ : ∃ i', i = i' + 1 := ⟨i - 1, by omega⟩
     obtain ⟨w', hw', hrow', hwl', _⟩ := hget i' (by omega)
     have hrow' : V[0 + (IntKind.i64.wrap (((i' + 1 : Nat) : Int) - 1)).toNat]? = some [intsA (vwG (enR x n) 0 w'), .int .i64 w'.c, .int .i64 w'.m] := by
      rw [wrapI (by omega) (by omega), show 0 + (((i' + 1 : Nat) : Int) - 1).toNat = i' by omega]
      exact hrow'
     have b4 := sooner18 (vwG (enR x n) 0 w') w'.c w'.m (vwG (enR x n) 0 w) w.c w.m (by omega) (by omega)
     rw [(soon_lw (hlw i' (i' + 1) w' w (by omega) hw' hw)).1] at b4
     cases hl : ldB (enR x n) ks (i' + 1) with
     | true =>
      rw [hl, Bool.true_or] at hstep
      (repeat' (first | exact rfl | ((conv => whnf); first | refine optS hrow ?_ | refine optS hrow' ?_ | refine ⟨_, b1, ?_⟩ | refine ⟨_, b2, ?_⟩ | refine ⟨_, b4, ?_⟩ | exact rfl | exact ⟨rfl, rfl⟩ | refine dk (by kernel_rfl) ?_ | refine pk (by kernel_rfl) ?_ | refine ⟨rfl, ?_⟩ | refine ⟨by (first | omega | (simp (disch := omega) only [wrapI]; first | omega | (simp; omega)) | (simp; omega)), ?_⟩ | (intro ep) | (refine ifB (fun hb => ?_) (fun hb => ?_) <;> (try simp only [qs] at hb) <;> (try simp (disch := omega) only [wrapI] at hb) <;> (try (exfalso; omega))) | fail)))
      all_goals (conv => whnf)
      all_goals exact back_of ⟨i' + 1 + 1, gi⟩ ⟨by rw [hstep]; (first | exact rfl | (simp (disch := omega) only [wrapI]; exact rfl)), rfl, by simp only; omega⟩
     | false =>
      rw [hl, Bool.false_or] at hstep
      (repeat' (first | exact rfl | ((conv => whnf); first | refine optS hrow ?_ | refine optS hrow' ?_ | refine ⟨_, b1, ?_⟩ | refine ⟨_, b2, ?_⟩ | refine ⟨_, b3, ?_⟩ | refine ⟨_, b4, ?_⟩ | exact rfl | exact ⟨rfl, rfl⟩ | refine dk (by kernel_rfl) ?_ | refine pk (by kernel_rfl) ?_ | refine ⟨rfl, ?_⟩ | refine ⟨by (first | omega | (simp (disch := omega) only [wrapI]; first | omega | (simp; omega)) | (simp; omega)), ?_⟩ | (intro ep) | (refine ifB (fun hb => ?_) (fun hb => ?_) <;> (try simp only [qs] at hb) <;> (try simp (disch := omega) only [wrapI] at hb) <;> (try (exfalso; omega))) | fail)))
      all_goals (conv => whnf)
      all_goals exact back_of ⟨i' + 1 + 1, gi⟩ ⟨by rw [hstep]; (first | exact rfl | (simp (disch := omega) only [wrapI]; exact rfl)), rfl, by simp only; omega⟩
    ·have g0 : i = 0 := by omega
     subst g0
     have hl : ldB (enR x n) ks 0 = false := rfl
     rw [hl, Bool.false_or] at hstep
     rw [hl]
     (repeat' (first | exact rfl | ((conv => whnf); first | refine optS hrow ?_ | refine ⟨_, b1, ?_⟩ | refine ⟨_, b2, ?_⟩ | refine ⟨_, b3, ?_⟩ | exact rfl | exact ⟨rfl, rfl⟩ | refine dk (by kernel_rfl) ?_ | refine pk (by kernel_rfl) ?_ | refine ⟨rfl, ?_⟩ | refine ⟨by (first | omega | (simp (disch := omega) only [wrapI]; first | omega | (simp; omega)) | (simp; omega)), ?_⟩ | (intro ep) | (refine ifB (fun hb => ?_) (fun hb => ?_) <;> (try simp only [qs] at hb) <;> (try simp (disch := omega) only [wrapI] at hb) <;> (try (exfalso; omega))) | fail)))
     all_goals (conv => whnf)
     all_goals exact back_of ⟨0 + 1, gi⟩ ⟨by rw [hstep]; (first | exact rfl | (simp (disch := omega) only [wrapI]; exact rfl)), rfl, by simp only; omega⟩
   ·have gi : i = V.length := by omega
    subst gi
    (repeat' (first | exact rfl | ((conv => whnf); first | exact rfl | exact ⟨rfl, rfl⟩ | refine dk (by kernel_rfl) ?_ | refine pk (by kernel_rfl) ?_ | refine ⟨rfl, ?_⟩ | refine ⟨by (first | omega | (simp (disch := omega) only [wrapI]; first | omega | (simp; omega)) | (simp; omega)), ?_⟩ | (intro ep) | (refine ifB (fun hb => ?_) (fun hb => ?_) <;> (try simp only [qs] at hb) <;> (try simp (disch := omega) only [wrapI] at hb) <;> (try (exfalso; omega))) | fail)))
    all_goals (conv => whnf)
    exact back_of () ⟨rfl, rfl, rfl⟩
  ·rintro ⟨⟩
   by_cases cf : f0 = 0
   ·obtain ⟨hkl, hA, w, p, hp, hwk, hc0, hm0⟩ := hown cf
    subst cf
    cases hl : ldB (enR x n) ks V.length with
    | true =>
     (repeat' (first | exact rfl | ((conv => whnf); first | refine ⟨_, works2, ?_⟩ | exact rfl | exact ⟨rfl, rfl⟩ | refine dk (by kernel_rfl) ?_ | refine pk (by kernel_rfl) ?_ | refine ⟨rfl, ?_⟩ | refine ⟨by (first | omega | (simp (disch := omega) only [wrapI]; first | omega | (simp; omega)) | (simp; omega)), ?_⟩ | (intro ep) | (refine ifB (fun hb => ?_) (fun hb => ?_) <;> (try simp only [qs] at hb) <;> (try simp (disch := omega) only [wrapI] at hb) <;> (try (exfalso; omega))) | fail)))
    | false =>
     have hpV : V.length ≤ p := by
      by_cases c : V.length ≤ p
      ·exact c
      ·exfalso
       have : ldB (enR x n) ks V.length = true := by
        unfold ldB
        refine List.any_eq_true.2 ⟨w, List.mem_of_getElem? (i := p) (by rw [List.getElem?_take, if_pos (by omega), hp]), ?_⟩
        simpa using hwk
       rw [hl] at this
       cases this
     have hpl := (List.getElem?_eq_some_iff.1 hp).1
     have hVm : V.length = mo := by omega
     obtain ⟨z, hz, hrow, hzl, _⟩ := hget (V.length - 1) (by omega)
     have hrow : V[0 + (IntKind.i64.wrap ((V.length : Int) - 1)).toNat]? = some [intsA (vwG (enR x n) 0 z), .int .i64 z.c, .int .i64 z.m] := by
      rw [wrapI (by omega) (by omega), show 0 + ((V.length : Int) - 1).toNat = V.length - 1 by omega]
      exact hrow
     have b4 := sooner18 ks c0 m0 (vwG (enR x n) 0 z) z.c z.m (by omega) (by omega)
     have hs := (soon_lw (hlw (V.length - 1) p z w (by omega) hz hp)).2
     rw [hwk, ← hc0, ← hm0] at hs
     rw [hs] at b4
     rw [hA]
     (repeat' (first | exact rfl | ((conv => whnf); first | refine optS hrow ?_ | refine ⟨_, b4, ?_⟩ | refine ⟨_, works2, ?_⟩ | exact rfl | exact ⟨rfl, rfl⟩ | refine dk (by kernel_rfl) ?_ | refine pk (by kernel_rfl) ?_ | refine ⟨rfl, ?_⟩ | refine ⟨by (first | omega | (simp (disch := omega) only [wrapI]; first | omega | (simp; omega)) | (simp; omega)), ?_⟩ | (intro ep) | (refine ifB (fun hb => ?_) (fun hb => ?_) <;> (try simp only [qs] at hb) <;> (try simp (disch := omega) only [wrapI] at hb) <;> (try (exfalso; omega))) | fail)))
   ·(repeat' (first | exact rfl | ((conv => whnf); first | refine ⟨_, works2, ?_⟩ | exact rfl | exact ⟨rfl, rfl⟩ | refine dk (by kernel_rfl) ?_ | refine pk (by kernel_rfl) ?_ | refine ⟨rfl, ?_⟩ | refine ⟨by (first | omega | (simp (disch := omega) only [wrapI]; first | omega | (simp; omega)) | (simp; omega)), ?_⟩ | (intro ep) | (refine ifB (fun hb => ?_) (fun hb => ?_) <;> (try simp only [qs] at hb) <;> (try simp (disch := omega) only [wrapI] at hb) <;> (try (exfalso; omega))) | fail)))
end Go.Ab.V
