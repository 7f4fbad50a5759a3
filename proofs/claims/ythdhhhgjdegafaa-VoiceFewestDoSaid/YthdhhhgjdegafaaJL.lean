/-
  What is proved here serves the law's text: each part says its own claim and its conditions. No condition is left open.
-/
import Derived.Test.YthdhhhgjdegafaaJK
import Derived.Test.YthdhhhgjdegafaaKZ
set_option linter.unusedSimpArgs false
set_option linter.unusedVariables false

namespace Go.Ab.V
section
variable {α : Type} {κ : α → Co}
theorem bst_congr {ls ls' : List (List α)} {p p' : Nat → Nat} (h : ∀ j, hdA ls p j = hdA ls' p' j) : ∀ n, bst κ ls p n = bst κ ls' p' n
 | 0 => rfl
 | n + 1 => by rw [bst, bst, h n, bst_congr h n]
theorem getD_map {β : Type} (f : List α → List β) (hf : f [] = []) (ls : List (List α)) (j : Nat) : (ls.map f).getD j [] = f (ls.getD j []) := by
 rw [List.getD_eq_getElem?_getD, List.getD_eq_getElem?_getD, List.getElem?_map]
 cases ls[j]? with
 | none => exact hf.symm
 | some l => rfl
theorem picks_take {ls : List (List α)} {m : Nat} : ∀ {k : Nat} {p : Nat → Nat}, (∀ j, p j + k ≤ m) → picks κ (ls.map (List.take m)) k p = picks κ ls k p
 | 0, p, _ => rfl
 | k + 1, p, h => by
  have hb : bst κ (ls.map (List.take m)) p (ls.map (List.take m)).length = bst κ ls p ls.length := by
   rw [List.length_map]
   refine bst_congr (fun j => ?_) _
   unfold hdA
   rw [getD_map (List.take m) (by simp), List.getElem?_take, if_pos (by have := h j; omega)]
  rw [picks, picks, hb]
  cases bst κ ls p ls.length with
  | none => rfl
  | some jx =>
   simp only
   rw [picks_take fun j => ?_]
   have := h j
   unfold bump
   split <;> omega
def lvP (l : List α) : Bool := !l.isEmpty
def cntL (ls : List (List α)) (n : Nat) : Nat := ((ls.take n).filter lvP).length
theorem lvP_iff {l : List α} : lvP l = true ↔ l ≠ [] := by unfold lvP; cases l <;> simp
theorem cntL_succ {ls : List (List α)} {n : Nat} {l : List α} (h : ls[n]? = some l) : cntL ls (n + 1) = cntL ls n + (if lvP l = true then 1 else 0) := by
 unfold cntL
 rw [List.take_add_one, h, List.filter_append, List.length_append]
 simp only [Option.toList, List.filter_cons, List.filter_nil]
 split <;> rfl
theorem cntL_mono {ls : List (List α)} {i j : Nat} (h : i ≤ j) : cntL ls i ≤ cntL ls j := by
 unfold cntL
 have : ls.take i = (ls.take j).take i := by rw [List.take_take, Nat.min_eq_left h]
 rw [this]
 exact ((List.take_sublist i (ls.take j)).filter _).length_le
theorem cntL_lt {ls : List (List α)} {i j : Nat} {l : List α} (h : i < j) (hi : ls[i]? = some l) (hl : l ≠ []) : cntL ls i < cntL ls j := by
 have h1 := cntL_succ hi
 rw [if_pos (lvP_iff.2 hl)] at h1
 have := cntL_mono (ls := ls) (show i + 1 ≤ j from h)
 omega
theorem flt_at {ls : List (List α)} {n : Nat} {l : List α} (h : ls[n]? = some l) (hl : l ≠ []) : (ls.filter lvP)[cntL ls n]? = some l := by
 obtain ⟨hn, e⟩ := List.getElem?_eq_some_iff.1 h
 have : ls = ls.take n ++ l :: ls.drop (n + 1) := by rw [← e, ← List.drop_eq_getElem_cons hn, List.take_append_drop]
 conv => lhs; rw [this]
 rw [List.filter_append, List.filter_cons, if_pos (lvP_iff.2 hl), List.getElem?_append_right]
 ·rw [show cntL (ls.take n ++ l :: ls.drop (n + 1)) n = cntL ls n by rw [← this]]
  unfold cntL
  rw [Nat.sub_self]
  rfl
 ·rw [show cntL (ls.take n ++ l :: ls.drop (n + 1)) n = cntL ls n by rw [← this]]
  exact Nat.le_refl _
theorem hd_live {ls : List (List α)} {p : Nat → Nat} {j : Nat} {x : α} (h : hdA ls p j = some x) : ∃ l, ls[j]? = some l ∧ l ≠ [] := by
 unfold hdA at h
 rw [List.getD_eq_getElem?_getD] at h
 cases e : ls[j]? with
 | none => rw [e] at h; simp at h
 | some l =>
  rw [e] at h
  refine ⟨l, rfl, fun e2 => ?_⟩
  subst e2
  simp at h
theorem bst_filter {ls : List (List α)} {p p' : Nat → Nat} (hp : ∀ j l, ls[j]? = some l → l ≠ [] → p' (cntL ls j) = p j) : ∀ n, n ≤ ls.length → bst κ (ls.filter lvP) p' (cntL ls n) = (bst κ ls p n).map fun jx => (cntL ls jx.1, jx.2)
 | 0, _ => rfl
 | n + 1, hn => by
  have ih := bst_filter hp n (by omega)
  have hl := List.getElem?_eq_getElem (l := ls) (i := n) (by omega)
  generalize ls[n] = l at hl
  rw [cntL_succ hl]
  by_cases c : l = []
  ·subst c
   have : hdA ls p n = none := by unfold hdA; rw [List.getD_eq_getElem?_getD, hl]; rfl
   rw [if_neg (by simp [lvP]), bst, this]
   exact ih
  ·rw [if_pos (lvP_iff.2 c)]
   have hh : hdA (ls.filter lvP) p' (cntL ls n) = hdA ls p n := by
    unfold hdA
    rw [List.getD_eq_getElem?_getD, List.getD_eq_getElem?_getD, flt_at hl c, hl, hp n l hl c]
   rw [bst, bst, hh, ih]
   cases hdA ls p n with
   | none => rfl
   | some x =>
    simp only
    cases bst κ ls p n with
    | none => rfl
    | some jx =>
     simp only [Option.map_some]
     split <;> rfl
theorem picks_filter {ls : List (List α)} : ∀ {k : Nat} {p p' : Nat → Nat}, (∀ j l, ls[j]? = some l → l ≠ [] → p' (cntL ls j) = p j) → (picks κ (ls.filter lvP) k p').map (·.2) = (picks κ ls k p).map (·.2)
 | 0, p, p', _ => rfl
 | k + 1, p, p', hp => by
  have hb := bst_filter (κ := κ) hp ls.length (Nat.le_refl _)
  have hc : cntL ls ls.length = (ls.filter lvP).length := by unfold cntL; rw [List.take_length]
  rw [hc] at hb
  rw [picks, picks, hb]
  cases hj : bst κ ls p ls.length with
  | none => rfl
  | some jx =>
   simp only [Option.map_some, List.map_cons]
   refine congrArg (jx.2 :: ·) (picks_filter fun i l hi hl => ?_)
   obtain ⟨l2, hj2, hl2⟩ := hd_live (bst_hd hj).2
   unfold bump
   by_cases c : i = jx.1
   ·subst c
    rw [if_pos rfl, if_pos rfl, hp _ l hi hl]
   ·rw [if_neg c, if_neg, hp _ l hi hl]
    rcases Nat.lt_or_gt_of_ne c with h | h
    ·have := cntL_lt h hi hl; omega
    ·have := cntL_lt h hj2 hl2; omega
theorem hdA_map {ls : List (List α)} {p : Nat → Nat} {j : Nat} : hdA (ls.map (List.map κ)) p j = (hdA ls p j).map κ := by
 unfold hdA
 rw [getD_map (List.map κ) rfl, List.getElem?_map]
theorem bst_map {ls : List (List α)} {p : Nat → Nat} : ∀ n, bst id (ls.map (List.map κ)) p n = (bst κ ls p n).map fun jx => (jx.1, κ jx.2)
 | 0 => rfl
 | n + 1 => by
  rw [bst, bst, hdA_map, bst_map n]
  cases hdA ls p n with
  | none => rfl
  | some x =>
   simp only [Option.map_some]
   cases bst κ ls p n with
   | none => rfl
   | some jx =>
    simp only [Option.map_some, id]
    split <;> rfl
theorem pkW_picks {ls : List (List α)} {φ : Wy → α} (hφ : ∀ (j q : Nat) (x : α), (ls.getD j [])[q]? = some x → φ ⟨(κ x).1, (κ x).2, (j : Int), (q : Int)⟩ = x) : ∀ (k : Nat) (p : Nat → Nat), (pkW (ls.map (List.map κ)) k p).map φ = (picks κ ls k p).map (·.2)
 | 0, p => rfl
 | k + 1, p => by
  rw [pkW, picks, List.length_map, bst_map]
  cases hj : bst κ ls p ls.length with
  | none => rfl
  | some jx =>
   simp only [Option.map_some, List.map_cons]
   rw [hφ jx.1 (p jx.1) jx.2 (bst_hd hj).2, pkW_picks hφ k]
end
theorem pkW_len {ls : List (List Co)} : ∀ {k : Nat} {p : Nat → Nat}, (pkW ls k p).length = k ∨ ((pkW ls k p).length ≤ k ∧ bst id ls (pkP ls k p) ls.length = none)
 | 0, p => .inl rfl
 | k + 1, p => by
  rw [pkW, pkP]
  cases hb : bst id ls p ls.length with
  | none => right; exact ⟨by simp, hb⟩
  | some jx =>
   simp only [List.length_cons]
   rcases pkW_len (ls := ls) (k := k) (p := bump p jx.1) with h | ⟨h, h2⟩
   ·left; omega
   ·right; exact ⟨by omega, h2⟩
theorem mrg_take (ls : List (List Co)) (m : Nat) : (mrg ls).take m = pkW ls m fun _ => 0 := by
 obtain ⟨t, ht, h2⟩ := pk_mrg ls m
 rcases pkW_len (ls := ls) (k := m) (p := fun _ => 0) with h | ⟨h, h3⟩
 ·rw [ht, List.take_append_of_le_length (by omega), List.take_of_length_le (by omega)]
 ·rw [ht, h2 h3, List.append_nil, List.take_of_length_le h]
abbrev Tl := List (List Int × Int × Int)
def tc (t : Tl) : Co := match t with
 | [] => (0, 0)
 | a :: _ => a.2
def firstT (L : List (List Tl)) (most : Nat) : List Tl := (picks tc L most fun _ => 0).map (·.2)
def ext (h : RMv) (t : Tl) : Tl := (h.ks, h.c + (tc t).1, h.m + (tc t).2) :: t
def DT (most : Nat) : Steps → Nat → List Tl
 | [], k => if k = 0 then [[([], 0, 0)]] else []
 | g :: G, k => firstT ((g.getD k []).map fun h => (DT most G h.to).map (ext h)) most
def tlW : Steps → Nat → Wy → Tl
 | [], _, _ => [([], 0, 0)]
 | g :: G, k, w => match (lvOf (WG G) (g.getD k []))[w.j.toNat]? with
  | none => []
  | some h => match (WG G h.to)[w.r.toNat]? with
   | none => []
   | some w' => ext h (tlW G h.to w')
def ToOk : Steps → Prop
 | [] => True
 | g :: G => (∀ ms ∈ g, ∀ h ∈ ms, G = [] → h.to = 0) ∧ ToOk G
theorem tlW_at {g : List (List RMv)} {G : Steps} {k : Nat} {w w' : Wy} {j q : Nat} {h : RMv} (hj : w.j = (j : Int)) (hq : w.r = (q : Int)) (h1 : (lvOf (WG G) (g.getD k []))[j]? = some h) (h2 : (WG G h.to)[q]? = some w') : tlW (g :: G) k w = ext h (tlW G h.to w') := by
 rw [tlW, hj, hq, Int.toNat_natCast, Int.toNat_natCast, h1]
 simp only [h2]
theorem tlW_cost : ∀ {G : Steps} {k : Nat} {w : Wy}, w ∈ WG G k → tc (tlW G k w) = (w.c, w.m)
 | [], k, w, h => by
  rw [WG, List.mem_singleton] at h
  subst h
  rfl
 | g :: G, k, w, h => by
  obtain ⟨j, q, m, w', hj, hq, hm, _, hw', hc, hmo⟩ := way_ok h
  rw [tlW_at hj hq hm hw']
  have := tlW_cost (List.mem_of_getElem? hw')
  show (m.c + (tc (tlW G m.to w')).1, m.m + (tc (tlW G m.to w')).2) = _
  rw [this, hc, hmo]
def vT (t : Tl) : List Int := t.flatMap (·.1)
theorem tlW_vw : ∀ {G : Steps} {k : Nat} {w : Wy}, w ∈ WG G k → vT (tlW G k w) = vwG G k w
 | [], k, w, h => by rw [tlW, vwG]; rfl
 | g :: G, k, w, h => by
  obtain ⟨j, q, m, w', hj, hq, hm, _, hw', hc, hmo⟩ := way_ok h
  rw [tlW_at hj hq hm hw', vwG, hj, hq, Int.toNat_natCast, Int.toNat_natCast, hm]
  simp only [hw']
  rw [← tlW_vw (List.mem_of_getElem? hw')]
  rfl
theorem DT_law {most : Nat} (hm : 1 ≤ most) : ∀ {G : Steps} {k : Nat}, ToOk G → (G = [] → k = 0) → DT most G k = ((WG G k).take most).map (tlW G k)
 | [], k, _, hk => by
  rw [DT, WG, if_pos (hk rfl), List.take_of_length_le (by simpa using hm)]
  rfl
 | g :: G, k, ht, _ => by
  obtain ⟨ht0, ht1⟩ := ht
  have ih : ∀ h ∈ g.getD k [], DT most G h.to = ((WG G h.to).take most).map (tlW G h.to) := fun h hh => by
   obtain ⟨ms, hms, hh⟩ := getD_memL hh
   exact DT_law hm ht1 fun e => ht0 ms hms h hh e
  obtain ⟨LF, hLF⟩ : ∃ LF : List (List Tl), LF = (g.getD k []).map fun h => (WG G h.to).map fun w => ext h (tlW G h.to w) := ⟨_, rfl⟩
  have e1 : ((g.getD k []).map fun h => (DT most G h.to).map (ext h)) = LF.map (List.take most) := by
   rw [hLF, List.map_map]
   refine List.map_congr_left fun h hh => ?_
   rw [ih h hh, List.map_map, Function.comp, ← List.map_take]
   rfl
  have e2 : LF.filter lvP = (lvOf (WG G) (g.getD k [])).map fun h => (WG G h.to).map fun w => ext h (tlW G h.to w) := by
   rw [hLF, List.filter_map]
   unfold lvOf
   refine congrArg (List.map _) (List.filter_congr fun h _ => ?_)
   simp [lvP]
  have e3 : lsOf (WG G) (g.getD k []) = (LF.filter lvP).map (List.map tc) := by
   rw [e2, List.map_map]
   unfold lsOf
   refine List.map_congr_left fun h _ => ?_
   simp only [Function.comp, List.map_map]
   refine List.map_congr_left fun w hw => ?_
   show _ = (h.c + (tc (tlW G h.to w)).1, h.m + (tc (tlW G h.to w)).2)
   rw [tlW_cost hw]
  rw [DT, e1, firstT, picks_take fun j => by omega, ← picks_filter (p' := fun _ => 0) fun _ _ _ _ => rfl, WG, mrg_take, e3, pkW_picks]
  intro j q x hx
  rw [e2, List.getD_eq_getElem?_getD, List.getElem?_map] at hx
  cases hj : (lvOf (WG G) (g.getD k []))[j]? with
  | none => rw [hj] at hx; simp at hx
  | some h =>
   rw [hj] at hx
   simp only [Option.map_some, Option.getD_some, List.getElem?_map, Option.map_eq_some_iff] at hx
   obtain ⟨w', hw', rfl⟩ := hx
   exact tlW_at rfl rfl hj hw'
end Go.Ab.V

namespace Go.Ab.V
open Go.Proofs
structure F67 where
 e0 : Nat
 e3 : Nat
 p : Nat → Nat
 out : List Tl
structure F67.Ok (L : List (List Tl)) (most : Nat) (z : F67) : Prop where
 hp : ∀ j, z.p j ≤ (L.getD j []).length
 hl : z.out.length ≤ most
 hu : z.out ++ ((picks tc L (most - z.out.length) z.p).map (·.2)) = firstT L most
end Go.Ab.V

namespace Go.Ab.V
def szG (G : Steps) (d : Nat) : Nat := if d < G.length then (G.getD d []).length else 1
structure SOk (G : Steps) : Prop where
 len : G.length ≤ 5600
 bd : GBd G
 to : ToOk G
 sz : ∀ i, (G.getD i []).length ≤ 100000000
 ms : ∀ i k, ((G.getD i []).getD k []).length ≤ 1000000
 nx : ∀ i k h, h ∈ (G.getD i []).getD k [] → h.to < szG G (i + 1)
 ks : ∀ g ∈ G, ∀ ms ∈ g, ∀ h ∈ ms, 0 < h.ks.length ∧ h.ks.length ≤ 100000
 one : 0 < szG G 0
structure TlOk (t : Tl) : Prop where
 ne : t ≠ []
 len : t.length ≤ 5601
 ks : ∀ a ∈ t, a.1.length ≤ 100000
 c : 0 ≤ (tc t).1 ∧ (tc t).1 ≤ 5600000000
 m : 0 ≤ (tc t).2 ∧ (tc t).2 ≤ 5600000000
theorem toOk_drop : ∀ {G : Steps} {d : Nat}, ToOk G → ToOk (G.drop d)
 | G, 0, h => by rw [List.drop_zero]; exact h
 | [], d + 1, h => by rw [List.drop_nil]; trivial
 | g :: G, d + 1, h => by rw [List.drop_succ_cons]; exact toOk_drop h.2
theorem tlW_wf : ∀ {G : Steps}, (∀ g ∈ G, ∀ ms ∈ g, ∀ h ∈ ms, 0 < h.ks.length ∧ h.ks.length ≤ 100000) → ∀ {k : Nat} {w : Wy}, w ∈ WG G k → (tlW G k w).length = G.length + 1 ∧ ∀ a ∈ tlW G k w, a.1.length ≤ 100000
 | [], _, k, w, h => by
  rw [tlW]
  exact ⟨rfl, fun a ha => by rw [List.mem_singleton.1 ha]; simp⟩
 | g :: G, hk, k, w, h => by
  obtain ⟨j, q, m, w', hj, hq, hm, hmm, hw', _, _⟩ := way_ok h
  rw [tlW_at hj hq hm hw']
  obtain ⟨h1, h2⟩ := tlW_wf (fun g hg => hk g (List.mem_cons_of_mem _ hg)) (List.mem_of_getElem? hw')
  obtain ⟨ms, hms, hmm⟩ := getD_memL hmm
  refine ⟨by unfold ext; simp [h1], fun a ha => ?_⟩
  unfold ext at ha
  rcases List.mem_cons.1 ha with rfl | ha
  ·exact (hk g (List.mem_cons_self ..) ms hms m hmm).2
  ·exact h2 a ha
theorem DT_mem {most : Nat} (hm : 1 ≤ most) {G : Steps} (ok : SOk G) {d k : Nat} (hd : d ≤ G.length) (hk : k < szG G d) : DT most (G.drop d) k = ((WG (G.drop d) k).take most).map (tlW (G.drop d) k) := by
 refine DT_law hm (toOk_drop ok.to) fun e => ?_
 have : d = G.length := by have := congrArg List.length e; rw [List.length_drop, List.length_nil] at this; omega
 unfold szG at hk
 rw [if_neg (by omega)] at hk
 omega
theorem DT_ok {most : Nat} (hm : 1 ≤ most) {G : Steps} (ok : SOk G) {d k : Nat} (hd : d ≤ G.length) (hk : k < szG G d) : ∀ t ∈ DT most (G.drop d) k, TlOk t := by
 intro t ht
 rw [DT_mem hm ok hd hk] at ht
 obtain ⟨w, hw, rfl⟩ := List.mem_map.1 ht
 have hw := List.mem_of_mem_take hw
 obtain ⟨h1, h2⟩ := tlW_wf (fun g hg => ok.ks g (List.mem_of_mem_drop hg)) hw
 have hb := WG_bd (G := G.drop d) (fun g hg => ok.bd g (List.mem_of_mem_drop hg)) k w hw
 have hl := ok.len
 have hdl : (G.drop d).length ≤ 5600 := by rw [List.length_drop]; omega
 have hc := tlW_cost hw
 refine ⟨fun e => by rw [e] at h1; simp at h1, by omega, h2, ?_, ?_⟩
 ·rw [hc]; simp only; omega
 ·rw [hc]; simp only; omega
def voiD (most : Nat) (G : Steps) : List (List AV) := (DT most G 0).map fun t => voiR (vT t) (tc t).1 (tc t).2
theorem voiD_L {most : Nat} (hm : 1 ≤ most) {G : Steps} (ok : SOk G) : voiD most G = voiL G most := by
 have := DT_mem hm ok (d := 0) (k := 0) (Nat.zero_le _) ok.one
 rw [List.drop_zero] at this
 unfold voiD voiL
 rw [this, List.map_map]
 refine List.map_congr_left fun w hw => ?_
 have hw := List.mem_of_mem_take hw
 show voiR (vT (tlW G 0 w)) (tc (tlW G 0 w)).1 (tc (tlW G 0 w)).2 = _
 rw [tlW_cost hw, tlW_vw hw]
end Go.Ab.V

namespace Go.Ab.V
theorem gr_lay {x : Lm} {n : List Nt} : ∀ {i j : Nat} {Ls : List Lay} {En : Steps}, GR x n i Ls En → ∀ (h : j < En.length) (h1 : j < Ls.length) (h2 : j + 1 < Ls.length), Ls[j + 1] = layG x n (i + j) Ls[j].1 Ls[j].2 ([], [])
 | i, j, [_], [], h, hj, _, _ => by simp at hj
 | i, 0, y :: y' :: Ls, mv :: M, h, hj, _, _ => by
  unfold GR at h
  exact h.1.2.2.1
 | i, j + 1, y :: y' :: Ls, mv :: M, h, hj, h1, h2 => by
  unfold GR at h
  have := gr_lay (j := j) h.2 (by simpa using hj) (by simpa using h1) (by simpa using h2)
  rw [show i + 1 + j = i + (j + 1) by omega] at this
  exact this
 | i, j, [], _, h, _, _, _ => by unfold GR at h; exact h.elim
 | i, j, [_], _ :: _, h, _, _, _ => by unfold GR at h; exact h.elim
 | i, j, _ :: _ :: _, [], h, _, _, _ => by unfold GR at h; exact h.elim
theorem mvE_last {x : Lm} {n : List Nt} {i : Nat} {v : St} (h : (segR 0 n)[i + 1]? = none) : ∀ m ∈ mvE x n i v, m.to = st0 := by
 intro m hm
 unfold mvE at hm
 split at hm
 ·simp at hm
 ·unfold mvR at hm
  obtain ⟨a, _, ha⟩ := List.mem_flatMap.1 hm
  unfold fin at ha
  split at ha
  ·simp at ha
  ·rw [List.mem_singleton.1 ha]
   simp only
   unfold frg
   rw [h]
theorem gr_end {x : Lm} {n : List Nt} {Ls : List Lay} (hG : Graph x n Ls) {i : Nat} (hi : i + 1 = (enR x n).length) (h2 : i + 1 < Ls.length) : Ls[i + 1].1 = [st0] := by
 have hll := gr_len hG.g
 have S := gr_at hG.g (j := i) (by omega) (by omega) h2
 have L := gr_lay hG.g (j := i) (by omega) (by omega) h2
 have hne := S.ne
 rw [Nat.zero_add] at L
 rw [L, layG_fst] at hne ⊢
 refine ddA_same (fun t ht => ?_) fun e => hne (by simp only [e]; rfl)
 obtain ⟨v, _, ht⟩ := List.mem_flatMap.1 ht
 obtain ⟨m, hm, rfl⟩ := List.mem_map.1 ht
 exact mvE_last (List.getElem?_eq_none (by rw [← hG.l]; omega)) m hm
theorem toOk_of : ∀ {G : Steps}, (∀ i (h : i + 1 = G.length), ∀ ms ∈ G[i], ∀ m ∈ ms, m.to = 0) → ToOk G
 | [], _ => trivial
 | g :: G, h => by
  refine ⟨fun ms hms m hm e => ?_, toOk_of fun i hi ms hms m hm => ?_⟩
  ·subst e
   exact h 0 rfl ms hms m hm
  ·exact h (i + 1) (by simp only [List.length_cons]; omega) ms hms m hm
theorem graph_to {x : Lm} {n : List Nt} {Ls : List Lay} (hG : Graph x n Ls) {i : Nat} (hi : i < (enR x n).length) {ms : List RMv} (hms : ms ∈ (enR x n)[i]) : ∃ (k : Nat) (v : St) (h1 : i + 1 < Ls.length), Ls[i].1[k]? = some v ∧ (enR x n)[i][k]? = some ms ∧ (∀ m ∈ ms, m.to < Ls[i + 1].1.length) ∧ mvE x n i v = ms.map (toMv Ls[i + 1].1) := by
 have hll := gr_len hG.g
 have S := gr_at hG.g (j := i) hi (by omega) (by omega)
 obtain ⟨k, hk⟩ := List.mem_iff_getElem?.1 hms
 have hkl := (List.getElem?_eq_some_iff.1 hk).1
 rw [S.len] at hkl
 have := S.mv k _ _ (List.getElem?_eq_getElem hkl) hk
 rw [Nat.zero_add] at this
 exact ⟨k, _, by omega, List.getElem?_eq_getElem hkl, hk, this.1, this.2⟩
theorem graph_sok {x : Lm} (X : LmOk x) {n : List Nt} (hN : chkN n = 0) {Ls : List Lay} (hG : Graph x n Ls) : SOk (enR x n) := by
 have hll := gr_len hG.g
 have hsl := segR_lenle n
 have hlen := (ntsOk_of hN).len
 have hat : ∀ i (hi : i < (enR x n).length), (enR x n).getD i [] = (enR x n)[i] := fun i hi => by rw [List.getD_eq_getElem?_getD, List.getElem?_eq_getElem hi]; rfl
 have hsz : ∀ i (hi : i < (enR x n).length), (enR x n)[i].length ≤ 100000000 := fun i hi => by
  have S := gr_at hG.g (j := i) hi (by omega) (by omega)
  rw [S.len]
  exact hG.sz _ (List.getElem_mem _)
 have hmem : ∀ i k m, m ∈ ((enR x n).getD i []).getD k [] → ∃ (hi : i < (enR x n).length) (ms : List RMv), ms ∈ (enR x n)[i] ∧ m ∈ ms := fun i k m hm => by
  by_cases hi : i < (enR x n).length
  ·rw [hat i hi] at hm
   obtain ⟨ms, hms, hm⟩ := getD_memL hm
   exact ⟨hi, ms, hms, hm⟩
  ·rw [show (enR x n).getD i [] = [] by rw [List.getD_eq_getElem?_getD, List.getElem?_eq_none (by omega)]; rfl] at hm
   simp at hm
 have hle : (enR x n).length ≤ 5600 := by rw [hG.l]; omega
 refine ⟨hle, gr_bd X hN hG.g hG.lay0, ?_, fun i => ?_, fun i k => ?_, fun i k m hm => ?_, fun g hg ms hms m hm => ?_, ?_⟩
 ·refine toOk_of fun i hi ms hms m hm => ?_
  obtain ⟨k, v, h1, _, _, h4, _⟩ := graph_to hG (by omega) hms
  have := h4 m hm
  rw [gr_end hG hi h1] at this
  simp only [List.length_singleton] at this
  omega
 ·by_cases hi : i < (enR x n).length
  ·rw [hat i hi]; exact hsz i hi
  ·rw [List.getD_eq_getElem?_getD, List.getElem?_eq_none (by omega)]; simp
 ·by_cases hi : i < (enR x n).length
  ·rw [hat i hi]
   by_cases hk : k < (enR x n)[i].length
   ·rw [List.getD_eq_getElem?_getD, List.getElem?_eq_getElem hk, Option.getD_some]
    obtain ⟨_, v, h1, _, _, _, h5⟩ := graph_to hG hi (List.getElem_mem hk)
    have := mvE_len X hN i v
    rw [h5, List.length_map] at this
    omega
   ·rw [List.getD_eq_getElem?_getD, List.getElem?_eq_none (l := (enR x n)[i]) (by omega)]; simp
  ·rw [show (enR x n).getD i [] = [] by rw [List.getD_eq_getElem?_getD, List.getElem?_eq_none (by omega)]; rfl]; simp
 ·obtain ⟨hi, ms, hms, hm⟩ := hmem i k m hm
  obtain ⟨_, v, h1, _, _, h4, _⟩ := graph_to hG hi hms
  have h4 := h4 m hm
  unfold szG
  by_cases c : i + 1 < (enR x n).length
  ·rw [if_pos c, hat _ c]
   have S := gr_at hG.g (j := i + 1) c (by omega) (by omega)
   rw [S.len]
   exact h4
  ·rw [if_neg c]
   rw [gr_end hG (by omega) h1] at h4
   simpa using h4
 ·obtain ⟨i, hi, rfl⟩ := List.mem_iff_getElem.1 hg
  obtain ⟨_, v, h1, _, _, _, h5⟩ := graph_to hG hi hms
  exact mvE_ks hN (toMv Ls[i + 1].1 m) (by rw [h5]; exact List.mem_map.2 ⟨m, hm, rfl⟩)
 ·unfold szG
  by_cases c : 0 < (enR x n).length
  ·rw [if_pos c, hG.one c]; omega
  ·rw [if_neg c]; omega
theorem nodup_at {α : Type} : ∀ {l : List α}, l.Nodup → ∀ {i j : Nat} (hi : i < l.length) (hj : j < l.length), l[i] = l[j] → i = j
 | a :: l, h, 0, 0, _, _, _ => rfl
 | a :: l, h, 0, j + 1, hi, hj, e => by
  have := (List.nodup_cons.1 h).1
  simp only [List.getElem_cons_zero, List.getElem_cons_succ] at e
  exact absurd (by rw [e]; exact List.getElem_mem _) this
 | a :: l, h, i + 1, 0, hi, hj, e => by
  have := (List.nodup_cons.1 h).1
  simp only [List.getElem_cons_zero, List.getElem_cons_succ] at e
  exact absurd (by rw [← e]; exact List.getElem_mem _) this
 | a :: l, h, i + 1, j + 1, hi, hj, e => by
  simp only [List.getElem_cons_succ] at e
  rw [nodup_at (List.nodup_cons.1 h).2 (by simpa using hi) (by simpa using hj) e]
theorem mrg_ne {ls : List (List Co)} {l : List Co} (h : l ∈ ls) (hl : l ≠ []) : mrg ls ≠ [] := by
 unfold mrg
 have hs : 0 < (ls.map List.length).sum := by
  have h2 : l.length ≤ (ls.map List.length).sum := by
   clear hl
   induction ls with
   | nil => simp at h
   | cons a r ih =>
    simp only [List.map_cons, List.sum_cons]
    rcases List.mem_cons.1 h with rfl | h
    ·omega
    ·have := ih h; omega
  have := List.length_pos_iff.2 hl
  omega
 obtain ⟨k, hk⟩ : ∃ k, (ls.map List.length).sum = k + 1 := ⟨(ls.map List.length).sum - 1, by omega⟩
 rw [hk, pkW]
 cases hb : bst id ls (fun _ => 0) ls.length with
 | some jx => simp
 | none =>
  obtain ⟨j, hj⟩ := List.mem_iff_getElem?.1 h
  have := bst_none hb j (List.getElem?_eq_some_iff.1 hj).1
  unfold hdA at this
  rw [List.getD_eq_getElem?_getD, hj, Option.getD_some] at this
  cases l with
  | nil => exact absurd rfl hl
  | cons a r => simp at this
theorem WG_ne {g : List (List RMv)} {G : Steps} {k : Nat} {m : RMv} (h : m ∈ g.getD k []) (h2 : WG G m.to ≠ []) : WG (g :: G) k ≠ [] := by
 rw [WG]
 refine mrg_ne (l := (WG G m.to).map fun w => (m.c + w.c, m.m + w.m)) (List.mem_map.2 ⟨m, List.mem_filter.2 ⟨h, ?_⟩, rfl⟩) ?_
 ·cases e : WG G m.to with
  | nil => exact absurd e h2
  | cons a r => rfl
 ·intro e
  exact h2 (List.map_eq_nil_iff.1 e)
theorem WG_reach {x : Lm} {n : List Nt} {Ls : List Lay} (hG : Graph x n Ls) : ∀ (i : Nat), i ≤ (enR x n).length → ∀ (k : Nat) (hi : i < Ls.length), k < Ls[i].1.length → WG ((enR x n).drop i) k ≠ [] → WG (enR x n) 0 ≠ []
 | 0, _, k, hi, hk, h => by
  have e := (List.getElem?_eq_some_iff.1 hG.h0).2
  rw [e] at hk
  have : k = 0 := by simpa using hk
  subst this
  rw [List.drop_zero] at h
  exact h
 | i + 1, hi1, k, hi, hk, h => by
  have hll := gr_len hG.g
  have L := gr_lay hG.g (j := i) (by omega) (by omega) hi
  have S := gr_at hG.g (j := i) (by omega) (by omega) hi
  have hnd := S.ok.nd
  rw [Nat.zero_add] at L
  have hm : Ls[i + 1].1[k] ∈ Ls[i + 1].1 := List.getElem_mem hk
  rw [show (Ls[i + 1].1[k] ∈ Ls[i + 1].1) = (Ls[i + 1].1[k] ∈ (layG x n i Ls[i].1 Ls[i].2 ([], [])).1) by rw [← L], layG_fst, ddA_mem] at hm
  rcases hm with hm | hm
  ·simp at hm
  ·obtain ⟨v, hv, hm⟩ := List.mem_flatMap.1 hm
   obtain ⟨mv, hmv, hto⟩ := List.mem_map.1 hm
   obtain ⟨j, hj⟩ := List.mem_iff_getElem?.1 hv
   have hjl := (List.getElem?_eq_some_iff.1 hj).1
   have hjE : j < (enR x n)[i].length := by rw [S.len]; exact hjl
   have M := S.mv j v _ hj (List.getElem?_eq_getElem hjE)
   rw [Nat.zero_add] at M
   rw [M.2] at hmv
   obtain ⟨r, hr, rfl⟩ := List.mem_map.1 hmv
   have hrl := M.1 r hr
   have hrk : r.to = k := by
    have h3 : Ls[i + 1].1[r.to] = Ls[i + 1].1[k] := by
     rw [← hto]
     show _ = Ls[i + 1].1.getD r.to st0
     rw [List.getD_eq_getElem?_getD, List.getElem?_eq_getElem hrl]
     rfl
    exact nodup_at hnd hrl hk h3
   refine WG_reach hG i (by omega) j (by omega) hjl ?_
   rw [List.drop_eq_getElem_cons (show i < (enR x n).length by omega)]
   refine WG_ne (m := r) ?_ (by rw [hrk]; exact h)
   rw [List.getD_eq_getElem?_getD, List.getElem?_eq_getElem hjE]
   exact hr
theorem WG_some {x : Lm} {n : List Nt} {Ls : List Lay} (hG : Graph x n Ls) : WG (enR x n) 0 ≠ [] := by
 have hll := gr_len hG.g
 refine WG_reach hG (enR x n).length (Nat.le_refl _) 0 (by omega) ?_ (by rw [List.drop_length, WG]; simp)
 by_cases c : 0 < (enR x n).length
 ·obtain ⟨i, hi⟩ : ∃ i, i + 1 = (enR x n).length := ⟨(enR x n).length - 1, by omega⟩
  have e := gr_end hG hi (by omega)
  simp only [hi] at e
  rw [e]
  simp
 ·have h0 : (enR x n).length = 0 := by omega
  have e := (List.getElem?_eq_some_iff.1 hG.h0).2
  simp only [h0]
  rw [e]
  simp
theorem voiL_pos {x : Lm} {n : List Nt} {Ls : List Lay} (hG : Graph x n Ls) {most : Nat} (hm : 1 ≤ most) : 0 < (voiL (enR x n) most).length := by
 have := List.length_pos_iff.2 (WG_some hG)
 unfold voiL
 rw [List.length_map, List.length_take]
 omega
end Go.Ab.V

namespace Go.Ab.V
theorem pkW_full {ls : List (List Co)} : ∀ {k : Nat} {p : Nat → Nat}, remN ls p ls.length = k → (pkW ls k p).length = k
 | 0, p, _ => rfl
 | k + 1, p, h => by
  rw [pkW]
  cases hb : bst id ls p ls.length with
  | none =>
   exfalso
   have h2 := bst_none hb
   have h3 : ∀ n, n ≤ ls.length → remN ls p n = 0 := by
    intro n
    induction n with
    | zero => intro _; rfl
    | succ n ih =>
     intro hn
     unfold remN
     rw [ih (by omega)]
     have := h2 n (by omega)
     unfold hdA at this
     have := List.getElem?_eq_none_iff.1 this
     omega
   have := h3 ls.length (Nat.le_refl _)
   omega
  | some jx =>
   have h1 := bst_hd hb
   have h2 : p jx.1 < (ls.getD jx.1 []).length := by
    have := h1.2
    unfold hdA at this
    exact (List.getElem?_eq_some_iff.1 this).1
   have h3 := remN_bump h2 (n := ls.length)
   rw [if_pos h1.1] at h3
   simp only [List.length_cons]
   rw [pkW_full (by omega)]
theorem mrg_len (ls : List (List Co)) : (mrg ls).length = (ls.map List.length).sum := pkW_full (remN_sum ls)
theorem WG_len {g : List (List RMv)} {G : Steps} {k : Nat} : (WG (g :: G) k).length = ((g.getD k []).map fun h => (WG G h.to).length).sum := by
 rw [WG, mrg_len]
 unfold lsOf lvOf
 rw [List.map_map]
 generalize g.getD k [] = ms
 induction ms with
 | nil => rfl
 | cons h r ih =>
  rw [List.filter_cons]
  cases e : WG G h.to with
  | nil =>
   rw [if_neg (by simp)]
   rw [ih]
   simp [e]
  | cons a b =>
   rw [if_pos (by simp)]
   simp only [List.map_cons, List.sum_cons]
   rw [ih]
   simp [e]
theorem mnC_add (a b : Nat) : mnC (mnC (a : Int) + mnC (b : Int)) = mnC ((a + b : Nat) : Int) := by
 unfold mnC
 split <;> split <;> split <;> omega
theorem mnC_mnC (a : Nat) : mnC (mnC (a : Int)) = mnC (a : Int) := by
 unfold mnC
 by_cases c : 1099511627776 < (a : Int)
 ·rw [if_pos c, if_neg (by omega)]
 ·rw [if_neg c, if_neg c]
def cs0 (φ : List Nat) : List Int := φ.map fun t : Nat => mnC (t : Int)
theorem foldl_mnC : ∀ (φ : List Nat) (a : Nat), (cs0 φ).foldl (fun n c => mnC (n + c)) (mnC (a : Int)) = mnC ((a + φ.sum : Nat) : Int)
 | [], a => rfl
 | t :: φ, a => by
  show (cs0 φ).foldl _ (mnC (mnC (a : Int) + mnC (t : Int))) = _
  rw [mnC_add, foldl_mnC φ (a + t), List.sum_cons, Nat.add_assoc]
def wsum (f : List St) (φ : List Nat) (β : St → Nat) : Nat := (List.zipWith (fun s t => t * β s) f φ).sum
theorem wsum_app {f f' : List St} {φ φ' : List Nat} (h : f.length = φ.length) (β : St → Nat) : wsum (f ++ f') (φ ++ φ') β = wsum f φ β + wsum f' φ' β := by
 unfold wsum
 rw [List.zipWith_append h, List.sum_append]
theorem wsum_set : ∀ {f : List St} {φ : List Nat} {j : Nat} {s : St} {a : Nat} (t : Nat) (β : St → Nat), f[j]? = some s → φ[j]? = some a → wsum f (φ.set j (a + t)) β = wsum f φ β + t * β s
 | [], φ, j, s, a, t, β, h, _ => by simp at h
 | _ :: _, [], j, s, a, t, β, _, h => by simp at h
 | v :: f, b :: φ, 0, s, a, t, β, h, h2 => by
  simp only [List.getElem?_cons_zero, Option.some.injEq] at h h2
  subst h h2
  unfold wsum
  simp only [List.set_cons_zero, List.zipWith_cons_cons, List.sum_cons, Nat.add_mul]
  omega
 | v :: f, b :: φ, j + 1, s, a, t, β, h, h2 => by
  have := wsum_set (f := f) (φ := φ) (j := j) t β (by simpa using h) (by simpa using h2)
  unfold wsum at this ⊢
  simp only [List.set_cons_succ, List.zipWith_cons_cons, List.sum_cons]
  omega
theorem wsum_congr {f : List St} {φ : List Nat} {β γ : St → Nat} (h : ∀ s ∈ f, β s = γ s) : wsum f φ β = wsum f φ γ := by
 unfold wsum
 induction f generalizing φ with
 | nil => rfl
 | cons v f ih =>
  cases φ with
  | nil => rfl
  | cons b φ =>
   simp only [List.zipWith_cons_cons, List.sum_cons]
   rw [h v (List.mem_cons_self ..), ih fun s hs => h s (List.mem_cons_of_mem _ hs)]
theorem wsum_one : ∀ {f : List St} {φ : List Nat}, f.length = φ.length → wsum f φ (fun _ => 1) = φ.sum
 | [], [], _ => rfl
 | v :: f, b :: φ, h => by
  have := wsum_one (f := f) (φ := φ) (by simpa using h)
  unfold wsum at this ⊢
  simp only [List.zipWith_cons_cons, List.sum_cons, Nat.mul_one] at this ⊢
  omega
structure Cn (y : Lay) (φ : List Nat) : Prop where
 len : y.1.length = φ.length
 eq : y.2 = cs0 φ
theorem cs0_set {φ : List Nat} {j t : Nat} : (cs0 φ).set j (mnC (t : Int)) = cs0 (φ.set j t) := by unfold cs0; rw [List.map_set]
theorem tellL_cn {y : Lay} {φ : List Nat} (h : Cn y φ) (t : Nat) (to : St) : ∃ φ', Cn (tellL (mnC (t : Int)) y to) φ' ∧ ∀ β, wsum (tellL (mnC (t : Int)) y to).1 φ' β = wsum y.1 φ β + t * β to := by
 obtain ⟨f, cs⟩ := y
 obtain ⟨h1, h2⟩ := h
 simp only at h1 h2
 subst h2
 by_cases c : to ∈ f
 ·have hj := idxA_get c
  have hp : putN f to = f := if_pos c
  have hjl := idxA_lt c
  obtain ⟨a, ha⟩ : ∃ a, φ[idxA to f]? = some a := ⟨_, List.getElem?_eq_getElem (by omega)⟩
  have hg : (cs0 φ).getD (idxA to f) 0 = mnC (a : Int) := by
   rw [List.getD_eq_getElem?_getD]
   unfold cs0
   rw [List.getElem?_map, ha]
   rfl
  refine ⟨φ.set (idxA to f) (a + t), ⟨?_, ?_⟩, fun β => ?_⟩
  ·simp only [tellL, hp, List.length_set]
   exact h1
  ·simp only [tellL, cnt1, cs1, if_pos c, hp]
   rw [hg, mnC_add, cs0_set]
  ·simp only [tellL, hp]
   exact wsum_set t β hj ha
 ·have hp : putN f to = f ++ [to] := if_neg c
  have hi : idxA to (f ++ [to]) = f.length := by
   unfold idxA
   rw [List.findIdx_append]
   have h3 : f.findIdx (· == to) = f.length := by
    rw [List.findIdx_eq_length]
    intro x hx
    simp only [beq_eq_false_iff_ne]
    intro e
    exact c (e ▸ hx)
   rw [if_neg (by omega)]
   simp
  have hcl : (cs0 φ).length = f.length := by unfold cs0; simp [h1]
  refine ⟨φ ++ [t], ⟨?_, ?_⟩, fun β => ?_⟩
  ·simp only [tellL, hp, List.length_append, List.length_singleton]
   omega
  ·simp only [tellL, cnt1, cs1, if_neg c, hp, hi]
   rw [List.getD_eq_getElem?_getD, List.getElem?_append_right (by omega), hcl, Nat.sub_self]
   simp only [List.getElem?_cons_zero, Option.getD_some, Int.zero_add]
   rw [mnC_mnC, List.set_append_right _ _ (by omega), hcl, Nat.sub_self]
   unfold cs0
   rw [List.map_append]
   rfl
  ·simp only [tellL, hp]
   rw [wsum_app h1]
   unfold wsum
   simp
theorem foldl_cn (t : Nat) : ∀ (L : List Mv) {y : Lay} {φ : List Nat}, Cn y φ → ∃ φ', Cn (L.foldl (fun y m => tellL (mnC (t : Int)) y m.to) y) φ' ∧ ∀ β, wsum (L.foldl (fun y m => tellL (mnC (t : Int)) y m.to) y).1 φ' β = wsum y.1 φ β + t * (L.map fun m => β m.to).sum
 | [], y, φ, h => ⟨φ, h, fun β => by simp⟩
 | m :: L, y, φ, h => by
  obtain ⟨φ1, h1, h2⟩ := tellL_cn h t m.to
  obtain ⟨φ2, h3, h4⟩ := foldl_cn t L h1
  refine ⟨φ2, h3, fun β => ?_⟩
  rw [List.foldl_cons, h4 β, h2 β]
  simp only [List.map_cons, List.sum_cons, Nat.mul_add]
  omega
theorem layG_cn (x : Lm) (n : List Nt) (i : Nat) : ∀ (f : List St) (ψ : List Nat) {y : Lay} {φ : List Nat}, f.length = ψ.length → Cn y φ → ∃ φ', Cn (layG x n i f (cs0 ψ) y) φ' ∧
  ∀ β, wsum (layG x n i f (cs0 ψ) y).1 φ' β = wsum y.1 φ β + wsum f ψ fun v => ((mvE x n i v).map fun m => β m.to).sum
 | [], [], y, φ, _, h => ⟨φ, h, fun β => rfl⟩
 | v :: f, t :: ψ, y, φ, hl, h => by
  obtain ⟨φ1, h1, h2⟩ := foldl_cn t (mvE x n i v) h
  obtain ⟨φ2, h3, h4⟩ := layG_cn x n i f ψ (by simpa using hl) h1
  refine ⟨φ2, h3, fun β => ?_⟩
  have e : layG x n i (v :: f) (cs0 (t :: ψ)) y = layG x n i f (cs0 ψ) ((mvE x n i v).foldl (fun y m => tellL (mnC (t : Int)) y m.to) y) := rfl
  rw [e, h4 β, h2 β]
  unfold wsum
  simp only [List.zipWith_cons_cons, List.sum_cons]
  omega
theorem idxN_at {l : List St} (hnd : l.Nodup) {j : Nat} (hj : j < l.length) : idxA l[j] l = j := by
 have h := idxA_get (List.getElem_mem hj)
 obtain ⟨h1, h2⟩ := List.getElem?_eq_some_iff.1 h
 exact nodup_at hnd h1 hj h2
theorem graph_nd {x : Lm} {n : List Nt} {Ls : List Lay} (hG : Graph x n Ls) : ∀ (i : Nat) (hi : i < Ls.length), Ls[i].1.Nodup
 | 0, hi => by
  have e := (List.getElem?_eq_some_iff.1 hG.h0).2
  rw [e]
  simp
 | i + 1, hi => by
  have hll := gr_len hG.g
  exact (gr_at hG.g (j := i) (by omega) (by omega) hi).ok.nd
theorem graph_cn {x : Lm} {n : List Nt} {Ls : List Lay} (hG : Graph x n Ls) : ∀ (i : Nat) (hi : i < Ls.length), ∃ φ, Cn Ls[i] φ ∧ wsum Ls[i].1 φ (fun s => (WG ((enR x n).drop i) (idxA s Ls[i].1)).length) = (WG (enR x n) 0).length
 | 0, hi => by
  have e := (List.getElem?_eq_some_iff.1 hG.h0).2
  refine ⟨[1], by rw [e]; exact ⟨rfl, rfl⟩, ?_⟩
  rw [e]
  simp [wsum, idxA]
 | i + 1, hi => by
  have hll := gr_len hG.g
  obtain ⟨ψ, hψ, hw⟩ := graph_cn hG i (by omega)
  have L := gr_lay hG.g (j := i) (by omega) (by omega) hi
  have S := gr_at hG.g (j := i) (by omega) (by omega) hi
  rw [Nat.zero_add] at L
  rw [hψ.eq] at L
  obtain ⟨φ, h1, h2⟩ := layG_cn x n i Ls[i].1 ψ (y := ([], [])) (φ := []) hψ.len ⟨rfl, rfl⟩
  rw [← L] at h1
  refine ⟨φ, h1, ?_⟩
  have h3 := h2 fun s => (WG ((enR x n).drop (i + 1)) (idxA s Ls[i + 1].1)).length
  rw [← L] at h3
  rw [h3, ← hw, show wsum ([] : List St) ([] : List Nat) _ = 0 from rfl, Nat.zero_add]
  refine wsum_congr fun v hv => ?_
  obtain ⟨k, hk, rfl⟩ := List.mem_iff_getElem.1 hv
  rw [idxN_at (graph_nd hG i (by omega)) hk]
  have hkE : k < (enR x n)[i].length := by rw [S.len]; exact hk
  have M := S.mv k _ _ (List.getElem?_eq_getElem hk) (List.getElem?_eq_getElem hkE)
  rw [Nat.zero_add] at M
  rw [List.drop_eq_getElem_cons (show i < (enR x n).length by omega), WG_len, M.2, List.map_map, List.getD_eq_getElem?_getD, List.getElem?_eq_getElem hkE, Option.getD_some]
  refine congrArg List.sum (List.map_congr_left fun h hh => ?_)
  have hto := M.1 h hh
  simp only [Function.comp, toMv]
  rw [List.getD_eq_getElem?_getD, List.getElem?_eq_getElem hto, Option.getD_some, idxN_at (graph_nd hG (i + 1) hi) hto]
theorem count_law {x : Lm} {n : List Nt} {Ls : List Lay} (hG : Graph x n Ls) (hi : (enR x n).length < Ls.length) : Ls[(enR x n).length].2.foldl (fun n c => mnC (n + c)) 0 = mnC ((WG (enR x n) 0).length : Int) := by
 obtain ⟨φ, h1, h2⟩ := graph_cn hG (enR x n).length hi
 rw [List.drop_length] at h2
 rw [show wsum Ls[(enR x n).length].1 φ (fun s => (WG [] (idxA s Ls[(enR x n).length].1)).length) = wsum Ls[(enR x n).length].1 φ fun _ => 1 from wsum_congr fun s _ => rfl, wsum_one h1.len] at h2
 rw [h1.eq]
 have := foldl_mnC φ 0
 rw [Nat.zero_add, h2] at this
 exact this
def cntB (G : Steps) (k : Nat) : Int := mnC ((WG G k).length : Int)
theorem cntB_cons {g : List (List RMv)} {G : Steps} {k : Nat} : cntB (g :: G) k = ((g.getD k []).map fun h => cntB G h.to).foldl (fun n c => mnC (n + c)) 0 := by
 unfold cntB
 have := foldl_mnC ((g.getD k []).map fun h => (WG G h.to).length) 0
 rw [Nat.zero_add, ← WG_len] at this
 rw [← this]
 unfold cs0
 rw [List.map_map]
 rfl
theorem cntB_bd (G : Steps) (k : Nat) : 0 ≤ cntB G k ∧ cntB G k ≤ 1099511627776 := by unfold cntB mnC; split <;> omega
end Go.Ab.V
