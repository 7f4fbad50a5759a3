/-
  What is proved here serves the law's text: each part says its own claim and its conditions. No condition is left open.
-/
import Derived.Test.YthdhhhgjdegafaaJK
import Derived.Test.YthdhhhgjdegafaaKZ
set_option linter.unusedSimpArgs false
set_option linter.unusedVariables false

namespace Go.Ab.V
section
variable {α : Type} {κ : α → Co}
theorem bst_congr {ls ls' : List (List α)} {p p' : Nat → Nat} (h : ∀ j, hdA ls p j = hdA ls' p' j) : ∀ n, bst κ ls p n = bst κ ls' p' n
 | 0 => rfl
 | n + 1 => by rw [bst, bst, h n, bst_congr h n]
theorem getD_map {β : Type} (f : List α → List β) (hf : f [] = []) (ls : List (List α)) (j : Nat) : (ls.map f).getD j [] = f (ls.getD j []) := by
 rw [List.getD_eq_getElem?_getD, List.getD_eq_getElem?_getD, List.getElem?_map]
 cases ls[j]? with
 | none => exact hf.symm
 | some l => rfl
theorem picks_take {ls : List (List α)} {m : Nat} : ∀ {k : Nat} {p : Nat → Nat}, (∀ j, p j + k ≤ m) → picks κ (ls.map (List.take m)) k p = picks κ ls k p
 | 0, p, _ => rfl
 | k + 1, p, h => by
  have hb : bst κ (ls.map (List.take m)) p (ls.map (List.take m)).length = bst κ ls p ls.length := by
   rw [List.length_map]
   refine bst_congr (fun j => ?_) _
   unfold hdA
   rw [getD_map (List.take m) (by simp), List.getElem?_take, if_pos (by have := h j; omega)]
  rw [picks, picks, hb]
  cases bst κ ls p ls.length with
  | none => rfl
  | some jx =>
   simp only
   rw [picks_take fun j => ?_]
   have := h j
   unfold bump
   split <;> omega
def lvP (l : List α) : Bool := !l.isEmpty
def cntL (ls : List (List α)) (n : Nat) : Nat := ((ls.take n).filter lvP).length
theorem lvP_iff {l : List α} : lvP l = true ↔ l ≠ [] := by unfold lvP; cases l <;> simp
theorem cntL_succ {ls : List (List α)} {n : Nat} {l : List α} (h : ls[n]? = some l) : cntL ls (n + 1) = cntL ls n + (if lvP l = true then 1 else 0) := by
 unfold cntL
 rw [List.take_add_one, h, List.filter_append, List.length_append]
 simp only [Option.toList, List.filter_cons, List.filter_nil]
 split <;> rfl
theorem cntL_mono {ls : List (List α)} {i j : Nat} (h : i ≤ j) : cntL ls i ≤ cntL ls j := by
 unfold cntL
 have : ls.take i = (ls.take j).take i := by rw [List.take_take, Nat.min_eq_left h]
 rw [this]
 exact ((List.take_sublist i (ls.take j)).filter _).length_le
theorem cntL_lt {ls : List (List α)} {i j : Nat} {l : List α} (h : i < j) (hi : ls[i]? = some l) (hl : l ≠ []) : cntL ls i < cntL ls j := by
 have h1 := cntL_succ hi
 rw [if_pos (lvP_iff.2 hl)] at h1
 have := cntL_mono (ls := ls) (show i + 1 ≤ j from h)
 omega
theorem flt_at {ls : List (List α)} {n : Nat} {l : List α} (h : ls[n]? = some l) (hl : l ≠ []) : (ls.filter lvP)[cntL ls n]? = some l := by
 obtain ⟨hn, e⟩ := List.getElem?_eq_some_iff.1 h
 have : ls = ls.take n ++ l :: ls.drop (n + 1) := by rw [← e, ← List.drop_eq_getElem_cons hn, List.take_append_drop]
 conv => lhs; rw [this]
 rw [List.filter_append, List.filter_cons, if_pos (lvP_iff.2 hl), List.getElem?_append_right]
 ·rw [show cntL (ls.take n ++ l :: ls.drop (n + 1)) n = cntL ls n by rw [← this]]
  unfold cntL
  rw [Nat.sub_self]
  rfl
 ·rw [show cntL (ls.take n ++ l :: ls.drop (n + 1)) n = cntL ls n by rw [← this]]
  exact Nat.le_refl _
theorem hd_live {ls : List (List α)} {p : Nat → Nat} {j : Nat} {x : α} (h : hdA ls p j = some x) : ∃ l, ls[j]? = some l ∧ l ≠ [] := by
 unfold hdA at h
 rw [List.getD_eq_getElem?_getD] at h
 cases e : ls[j]? with
 | none => rw [e] at h; simp at h
 | some l =>
  rw [e] at h
  refine ⟨l, rfl, fun e2 => ?_⟩
  subst e2
  simp at h
theorem bst_filter {ls : List (List α)} {p p' : Nat → Nat} (hp : ∀ j l, ls[j]? = some l → l ≠ [] → p' (cntL ls j) = p j) : ∀ n, n ≤ ls.length → bst κ (ls.filter lvP) p' (cntL ls n) = (bst κ ls p n).map fun jx => (cntL ls jx.1, jx.2)
 | 0, _ => rfl
 | n + 1, hn => by
  have ih := bst_filter hp n (by omega)
  have hl := List.getElem?_eq_getElem (l := ls) (i := n) (by omega)
  generalize ls[n] = l at hl
  rw [cntL_succ hl]
  by_cases c : l = []
  ·subst c
   have : hdA ls p n = none := by unfold hdA; rw [List.getD_eq_getElem?_getD, hl]; rfl
   rw [if_neg (by simp [lvP]), bst, this]
   exact ih
  ·rw [if_pos (lvP_iff.2 c)]
   have hh : hdA (ls.filter lvP) p' (cntL ls n) = hdA ls p n := by
    unfold hdA
    rw [List.getD_eq_getElem?_getD, List.getD_eq_getElem?_getD, flt_at hl c, hl, hp n l hl c]
   rw [bst, bst, hh, ih]
   cases hdA ls p n with
   | none => rfl
   | some x =>
    simp only
    cases bst κ ls p n with
    | none => rfl
    | some jx =>
     simp only [Option.map_some]
     split <;> rfl
theorem picks_filter {ls : List (List α)} : ∀ {k : Nat} {p p' : Nat → Nat}, (∀ j l, ls[j]? = some l → l ≠ [] → p' (cntL ls j) = p j) → (picks κ (ls.filter lvP) k p').map (·.2) = (picks κ ls k p).map (·.2)
 | 0, p, p', _ => rfl
 | k + 1, p, p', hp => by
  have hb := bst_filter (κ := κ) hp ls.length (Nat.le_refl _)
  have hc : cntL ls ls.length = (ls.filter lvP).length := by unfold cntL; rw [List.take_length]
  rw [hc] at hb
  rw [picks, picks, hb]
  cases hj : bst κ ls p ls.length with
  | none => rfl
  | some jx =>
   simp only [Option.map_some, List.map_cons]
   refine congrArg (jx.2 :: ·) (picks_filter fun i l hi hl => ?_)
   obtain ⟨l2, hj2, hl2⟩ := hd_live (bst_hd hj).2
   unfold bump
   by_cases c : i = jx.1
   ·subst c
    rw [if_pos rfl, if_pos rfl, hp _ l hi hl]
   ·rw [if_neg c, if_neg, hp _ l hi hl]
    rcases Nat.lt_or_gt_of_ne c with h | h
    ·have := cntL_lt h hi hl; omega
    ·have := cntL_lt h hj2 hl2; omega
theorem hdA_map {ls : List (List α)} {p : Nat → Nat} {j : Nat} : hdA (ls.map (List.map κ)) p j = (hdA ls p j).map κ := by
 unfold hdA
 rw [getD_map (List.map κ) rfl, List.getElem?_map]
theorem bst_map {ls : List (List α)} {p : Nat → Nat} : ∀ n, bst id (ls.map (List.map κ)) p n = (bst κ ls p n).map fun jx => (jx.1, κ jx.2)
 | 0 => rfl
 | n + 1 => by
  rw [bst, bst, hdA_map, bst_map n]
  cases hdA ls p n with
  | none => rfl
  | some x =>
   simp only [Option.map_some]
   cases bst κ ls p n with
   | none => rfl
   | some jx =>
    simp only [Option.map_some, id]
    split <;> rfl
theorem pkW_picks {ls : List (List α)} {φ : Wy → α} (hφ : ∀ (j q : Nat) (x : α), (ls.getD j [])[q]? = some x → φ ⟨(κ x).1, (κ x).2, (j : Int), (q : Int)⟩ = x) : ∀ (k : Nat) (p : Nat → Nat), (pkW (ls.map (List.map κ)) k p).map φ = (picks κ ls k p).map (·.2)
 | 0, p => rfl
 | k + 1, p => by
  rw [pkW, picks, List.length_map, bst_map]
  cases hj : bst κ ls p ls.length with
  | none => rfl
  | some jx =>
   simp only [Option.map_some, List.map_cons]
   rw [hφ jx.1 (p jx.1) jx.2 (bst_hd hj).2, pkW_picks hφ k]
end
theorem pkW_len {ls : List (List Co)} : ∀ {k : Nat} {p : Nat → Nat}, (pkW ls k p).length = k ∨ ((pkW ls k p).length ≤ k ∧ bst id ls (pkP ls k p) ls.length = none)
 | 0, p => .inl rfl
 | k + 1, p => by
  rw [pkW, pkP]
  cases hb : bst id ls p ls.length with
  | none => right; exact ⟨by simp, hb⟩
  | some jx =>
   simp only [List.length_cons]
   rcases pkW_len (ls := ls) (k := k) (p := bump p jx.1) with h | ⟨h, h2⟩
   ·left; omega
   ·right; exact ⟨by omega, h2⟩
theorem mrg_take (ls : List (List Co)) (m : Nat) : (mrg ls).take m = pkW ls m fun _ => 0 := by
 obtain ⟨t, ht, h2⟩ := pk_mrg ls m
 rcases pkW_len (ls := ls) (k := m) (p := fun _ => 0) with h | ⟨h, h3⟩
 ·rw [ht, List.take_append_of_le_length (by omega), List.take_of_length_le (by omega)]
 ·rw [ht, h2 h3, List.append_nil, List.take_of_length_le h]
abbrev Tl := List (List Int × Int × Int)
def tc (t : Tl) : Co := match t with
 | [] => (0, 0)
 | a :: _ => a.2
def firstT (L : List (List Tl)) (most : Nat) : List Tl := (picks tc L most fun _ => 0).map (·.2)
def ext (h : RMv) (t : Tl) : Tl := (h.ks, h.c + (tc t).1, h.m + (tc t).2) :: t
def DT (most : Nat) : Steps → Nat → List Tl
 | [], k => if k = 0 then [[([], 0, 0)]] else []
 | g :: G, k => firstT ((g.getD k []).map fun h => (DT most G h.to).map (ext h)) most
def tlW : Steps → Nat → Wy → Tl
 | [], _, _ => [([], 0, 0)]
 | g :: G, k, w => match (lvOf (WG G) (g.getD k []))[w.j.toNat]? with
  | none => []
  | some h => match (WG G h.to)[w.r.toNat]? with
   | none => []
   | some w' => ext h (tlW G h.to w')
def ToOk : Steps → Prop
 | [] => True
 | g :: G => (∀ ms ∈ g, ∀ h ∈ ms, G = [] → h.to = 0) ∧ ToOk G
theorem tlW_at {g : List (List RMv)} {G : Steps} {k : Nat} {w w' : Wy} {j q : Nat} {h : RMv} (hj : w.j = (j : Int)) (hq : w.r = (q : Int)) (h1 : (lvOf (WG G) (g.getD k []))[j]? = some h) (h2 : (WG G h.to)[q]? = some w') : tlW (g :: G) k w = ext h (tlW G h.to w') := by
 rw [tlW, hj, hq, Int.toNat_natCast, Int.toNat_natCast, h1]
 simp only [h2]
theorem tlW_cost : ∀ {G : Steps} {k : Nat} {w : Wy}, w ∈ WG G k → tc (tlW G k w) = (w.c, w.m)
 | [], k, w, h => by
  rw [WG, List.mem_singleton] at h
  subst h
  rfl
 | g :: G, k, w, h => by
  obtain ⟨j, q, m, w', hj, hq, hm, _, hw', hc, hmo⟩ := way_ok h
  rw [tlW_at hj hq hm hw']
  have := tlW_cost (List.mem_of_getElem? hw')
  show (m.c + (tc (tlW G m.to w')).1, m.m + (tc (tlW G m.to w')).2) = _
  rw [this, hc, hmo]
def vT (t : Tl) : List Int := t.flatMap (·.1)
theorem tlW_vw : ∀ {G : Steps} {k : Nat} {w : Wy}, w ∈ WG G k → vT (tlW G k w) = vwG G k w
 | [], k, w, h => by rw [tlW, vwG]; rfl
 | g :: G, k, w, h => by
  obtain ⟨j, q, m, w', hj, hq, hm, _, hw', hc, hmo⟩ := way_ok h
  rw [tlW_at hj hq hm hw', vwG, hj, hq, Int.toNat_natCast, Int.toNat_natCast, hm]
  simp only [hw']
  rw [← tlW_vw (List.mem_of_getElem? hw')]
  rfl
theorem DT_law {most : Nat} (hm : 1 ≤ most) : ∀ {G : Steps} {k : Nat}, ToOk G → (G = [] → k = 0) → DT most G k = ((WG G k).take most).map (tlW G k)
 | [], k, _, hk => by
  rw [DT, WG, if_pos (hk rfl), List.take_of_length_le (by simpa using hm)]
  rfl
 | g :: G, k, ht, _ => by
  obtain ⟨ht0, ht1⟩ := ht
  have ih : ∀ h ∈ g.getD k [], DT most G h.to = ((WG G h.to).take most).map (tlW G h.to) := fun h hh => by
   obtain ⟨ms, hms, hh⟩ := getD_memL hh
   exact DT_law hm ht1 fun e => ht0 ms hms h hh e
  obtain ⟨LF, hLF⟩ : ∃ LF : List (List Tl), LF = (g.getD k []).map fun h => (WG G h.to).map fun w => ext h (tlW G h.to w) := ⟨_, rfl⟩
  have e1 : ((g.getD k []).map fun h => (DT most G h.to).map (ext h)) = LF.map (List.take most) := by
   rw [hLF, List.map_map]
   refine List.map_congr_left fun h hh => ?_
   rw [ih h hh, List.map_map, Function.comp, ← List.map_take]
   rfl
  have e2 : LF.filter lvP = (lvOf (WG G) (g.getD k [])).map fun h => (WG G h.to).map fun w => ext h (tlW G h.to w) := by
   rw [hLF, List.filter_map]
   unfold lvOf
   refine congrArg (List.map _) (List.filter_congr fun h _ => ?_)
   simp [lvP]
  have e3 : lsOf (WG G) (g.getD k []) = (LF.filter lvP).map (List.map tc) := by
   rw [e2, List.map_map]
   unfold lsOf
   refine List.map_congr_left fun h _ => ?_
   simp only [Function.comp, List.map_map]
   refine List.map_congr_left fun w hw => ?_
   show _ = (h.c + (tc (tlW G h.to w)).1, h.m + (tc (tlW G h.to w)).2)
   rw [tlW_cost hw]
  rw [DT, e1, firstT, picks_take fun j => by omega, ← picks_filter (p' := fun _ => 0) fun _ _ _ _ => rfl, WG, mrg_take, e3, pkW_picks]
  intro j q x hx
  rw [e2, List.getD_eq_getElem?_getD, List.getElem?_map] at hx
  cases hj : (lvOf (WG G) (g.getD k []))[j]? with
  | none => rw [hj] at hx; simp at hx
  | some h =>
   rw [hj] at hx
   simp only [Option.map_some, Option.getD_some, List.getElem?_map, Option.map_eq_some_iff] at hx
   obtain ⟨w', hw', rfl⟩ := hx
   exact tlW_at rfl rfl hj hw'
end Go.Ab.V

namespace Go.Ab.V
open Go.Proofs
def atL (p : Nat → Nat) (n : Nat) : List Int := (List.range n).map fun j => (p j : Int)
theorem atL_at {p : Nat → Nat} {n j : Nat} (h : j < n) : (ints (atL p n))[j]? = some [.int .i64 (p j : Int)] := by
 unfold ints atL
 rw [List.getElem?_map, List.getElem?_map, List.getElem?_range h]
 rfl
theorem atL_row {p : Nat → Nat} {n j : Nat} (h : j < n) : (ints (atL p n))[0 + ((j : Nat) : Int).toNat]? = some [.int .i64 (p j : Int)] := by
 rw [Nat.zero_add, Int.toNat_natCast, atL_at h]
theorem atL_set {p : Nat → Nat} {n j : Nat} (h : j < n) : (ints (atL p n)).set j [.int .i64 ((p j : Int) + 1)] = ints (atL (bump p j) n) := by
 refine List.ext_getElem? fun i => ?_
 by_cases c : i < n
 ·rw [List.getElem?_set]
  by_cases e : j = i
  ·subst e
   rw [if_pos rfl, if_pos (by simp [ints, atL]; exact h)]
   rw [atL_at (p := bump p j) c, show bump p j j = p j + 1 from if_pos rfl]
   rfl
  ·rw [if_neg e, atL_at (p := bump p j) c, atL_at (p := p) c, show bump p j i = p i from if_neg fun h => e h.symm]
 ·rw [List.getElem?_eq_none (by simp [ints, atL]; omega), List.getElem?_eq_none (by simp [ints, atL]; omega)]
theorem atL_zero {n : Nat} : List.replicate n ([.int .i64 0] : List AV) = ints (atL (fun _ => 0) n) := by
 refine List.ext_getElem? fun i => ?_
 by_cases c : i < n
 ·rw [atL_at c, List.getElem?_replicate, if_pos c]; rfl
 ·rw [List.getElem?_eq_none (by simp; omega), List.getElem?_eq_none (by simp [ints, atL]; omega)]
structure F67 where
 e0 : Nat
 e3 : Nat
 p : Nat → Nat
 out : List Tl
structure F67.Ok (L : List (List Tl)) (most : Nat) (z : F67) : Prop where
 hp : ∀ j, z.p j ≤ (L.getD j []).length
 hl : z.out.length ≤ most
 hu : z.out ++ ((picks tc L (most - z.out.length) z.p).map (·.2)) = firstT L most
end Go.Ab.V

namespace Go.Ab.V
def szG (G : Steps) (d : Nat) : Nat := if d < G.length then (G.getD d []).length else 1
structure SOk (G : Steps) : Prop where
 len : G.length ≤ 5600
 bd : GBd G
 to : ToOk G
 sz : ∀ i, (G.getD i []).length ≤ 100000000
 ms : ∀ i k, ((G.getD i []).getD k []).length ≤ 1000000
 nx : ∀ i k h, h ∈ (G.getD i []).getD k [] → h.to < szG G (i + 1)
 ks : ∀ g ∈ G, ∀ ms ∈ g, ∀ h ∈ ms, 0 < h.ks.length ∧ h.ks.length ≤ 100000
 one : 0 < szG G 0
structure TlOk (t : Tl) : Prop where
 ne : t ≠ []
 len : t.length ≤ 5601
 ks : ∀ a ∈ t, a.1.length ≤ 100000
 c : 0 ≤ (tc t).1 ∧ (tc t).1 ≤ 5600000000
 m : 0 ≤ (tc t).2 ∧ (tc t).2 ≤ 5600000000
theorem toOk_drop : ∀ {G : Steps} {d : Nat}, ToOk G → ToOk (G.drop d)
 | G, 0, h => by rw [List.drop_zero]; exact h
 | [], d + 1, h => by rw [List.drop_nil]; trivial
 | g :: G, d + 1, h => by rw [List.drop_succ_cons]; exact toOk_drop h.2
theorem tlW_wf : ∀ {G : Steps}, (∀ g ∈ G, ∀ ms ∈ g, ∀ h ∈ ms, 0 < h.ks.length ∧ h.ks.length ≤ 100000) → ∀ {k : Nat} {w : Wy}, w ∈ WG G k → (tlW G k w).length = G.length + 1 ∧ ∀ a ∈ tlW G k w, a.1.length ≤ 100000
 | [], _, k, w, h => by
  rw [tlW]
  exact ⟨rfl, fun a ha => by rw [List.mem_singleton.1 ha]; simp⟩
 | g :: G, hk, k, w, h => by
  obtain ⟨j, q, m, w', hj, hq, hm, hmm, hw', _, _⟩ := way_ok h
  rw [tlW_at hj hq hm hw']
  obtain ⟨h1, h2⟩ := tlW_wf (fun g hg => hk g (List.mem_cons_of_mem _ hg)) (List.mem_of_getElem? hw')
  obtain ⟨ms, hms, hmm⟩ := getD_memL hmm
  refine ⟨by unfold ext; simp [h1], fun a ha => ?_⟩
  unfold ext at ha
  rcases List.mem_cons.1 ha with rfl | ha
  ·exact (hk g (List.mem_cons_self ..) ms hms m hmm).2
  ·exact h2 a ha
theorem DT_mem {most : Nat} (hm : 1 ≤ most) {G : Steps} (ok : SOk G) {d k : Nat} (hd : d ≤ G.length) (hk : k < szG G d) : DT most (G.drop d) k = ((WG (G.drop d) k).take most).map (tlW (G.drop d) k) := by
 refine DT_law hm (toOk_drop ok.to) fun e => ?_
 have : d = G.length := by have := congrArg List.length e; rw [List.length_drop, List.length_nil] at this; omega
 unfold szG at hk
 rw [if_neg (by omega)] at hk
 omega
theorem DT_ok {most : Nat} (hm : 1 ≤ most) {G : Steps} (ok : SOk G) {d k : Nat} (hd : d ≤ G.length) (hk : k < szG G d) : ∀ t ∈ DT most (G.drop d) k, TlOk t := by
 intro t ht
 rw [DT_mem hm ok hd hk] at ht
 obtain ⟨w, hw, rfl⟩ := List.mem_map.1 ht
 have hw := List.mem_of_mem_take hw
 obtain ⟨h1, h2⟩ := tlW_wf (fun g hg => ok.ks g (List.mem_of_mem_drop hg)) hw
 have hb := WG_bd (G := G.drop d) (fun g hg => ok.bd g (List.mem_of_mem_drop hg)) k w hw
 have hl := ok.len
 have hdl : (G.drop d).length ≤ 5600 := by rw [List.length_drop]; omega
 have hc := tlW_cost hw
 refine ⟨fun e => by rw [e] at h1; simp at h1, by omega, h2, ?_, ?_⟩
 ·rw [hc]; simp only; omega
 ·rw [hc]; simp only; omega
def voiD (most : Nat) (G : Steps) : List (List AV) := (DT most G 0).map fun t => voiR (vT t) (tc t).1 (tc t).2
theorem voiD_L {most : Nat} (hm : 1 ≤ most) {G : Steps} (ok : SOk G) : voiD most G = voiL G most := by
 have := DT_mem hm ok (d := 0) (k := 0) (Nat.zero_le _) ok.one
 rw [List.drop_zero] at this
 unfold voiD voiL
 rw [this, List.map_map]
 refine List.map_congr_left fun w hw => ?_
 have hw := List.mem_of_mem_take hw
 show voiR (vT (tlW G 0 w)) (tc (tlW G 0 w)).1 (tc (tlW G 0 w)).2 = _
 rw [tlW_cost hw, tlW_vw hw]
end Go.Ab.V
