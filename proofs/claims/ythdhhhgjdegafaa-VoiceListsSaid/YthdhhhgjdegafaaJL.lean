/-
  What is proved here serves the law's text: each part says its own claim and its conditions. No condition is left open.
-/
import Derived.Test.YthdhhhgjdegafaaJK
import Derived.Test.YthdhhhgjdegafaaKZ
set_option linter.unusedSimpArgs false
set_option linter.unusedVariables false

namespace Go.Ab.V
section
variable {α : Type} {κ : α → Co}
theorem bst_congr {ls ls' : List (List α)} {p p' : Nat → Nat} (h : ∀ j, hdA ls p j = hdA ls' p' j) : ∀ n, bst κ ls p n = bst κ ls' p' n
 | 0 => rfl
 | n + 1 => by rw [bst, bst, h n, bst_congr h n]
theorem getD_map {β : Type} (f : List α → List β) (hf : f [] = []) (ls : List (List α)) (j : Nat) : (ls.map f).getD j [] = f (ls.getD j []) := by
 rw [List.getD_eq_getElem?_getD, List.getD_eq_getElem?_getD, List.getElem?_map]
 cases ls[j]? with
 | none => exact hf.symm
 | some l => rfl
theorem picks_take {ls : List (List α)} {m : Nat} : ∀ {k : Nat} {p : Nat → Nat}, (∀ j, p j + k ≤ m) → picks κ (ls.map (List.take m)) k p = picks κ ls k p
 | 0, p, _ => rfl
 | k + 1, p, h => by
  have hb : bst κ (ls.map (List.take m)) p (ls.map (List.take m)).length = bst κ ls p ls.length := by
   rw [List.length_map]
   refine bst_congr (fun j => ?_) _
   unfold hdA
   rw [getD_map (List.take m) (by simp), List.getElem?_take, if_pos (by have := h j; omega)]
  rw [picks, picks, hb]
  cases bst κ ls p ls.length with
  | none => rfl
  | some jx =>
   simp only
   rw [picks_take fun j => ?_]
   have := h j
   unfold bump
   split <;> omega
def lvP (l : List α) : Bool := !l.isEmpty
def cntL (ls : List (List α)) (n : Nat) : Nat := ((ls.take n).filter lvP).length
theorem lvP_iff {l : List α} : lvP l = true ↔ l ≠ [] := by unfold lvP; cases l <;> simp
theorem cntL_succ {ls : List (List α)} {n : Nat} {l : List α} (h : ls[n]? = some l) : cntL ls (n + 1) = cntL ls n + (if lvP l = true then 1 else 0) := by
 unfold cntL
 rw [List.take_add_one, h, List.filter_append, List.length_append]
 simp only [Option.toList, List.filter_cons, List.filter_nil]
 split <;> rfl
theorem cntL_mono {ls : List (List α)} {i j : Nat} (h : i ≤ j) : cntL ls i ≤ cntL ls j := by
 unfold cntL
 have : ls.take i = (ls.take j).take i := by rw [List.take_take, Nat.min_eq_left h]
 rw [this]
 exact ((List.take_sublist i (ls.take j)).filter _).length_le
theorem cntL_lt {ls : List (List α)} {i j : Nat} {l : List α} (h : i < j) (hi : ls[i]? = some l) (hl : l ≠ []) : cntL ls i < cntL ls j := by
 have h1 := cntL_succ hi
 rw [if_pos (lvP_iff.2 hl)] at h1
 have := cntL_mono (ls := ls) (show i + 1 ≤ j from h)
 omega
theorem flt_at {ls : List (List α)} {n : Nat} {l : List α} (h : ls[n]? = some l) (hl : l ≠ []) : (ls.filter lvP)[cntL ls n]? = some l := by
 obtain ⟨hn, e⟩ := List.getElem?_eq_some_iff.1 h
 have : ls = ls.take n ++ l :: ls.drop (n + 1) := by rw [← e, ← List.drop_eq_getElem_cons hn, List.take_append_drop]
 conv => lhs; rw [this]
 rw [List.filter_append, List.filter_cons, if_pos (lvP_iff.2 hl), List.getElem?_append_right]
 ·rw [show cntL (ls.take n ++ l :: ls.drop (n + 1)) n = cntL ls n by rw [← this]]
  unfold cntL
  rw [Nat.sub_self]
  rfl
 ·rw [show cntL (ls.take n ++ l :: ls.drop (n + 1)) n = cntL ls n by rw [← this]]
  exact Nat.le_refl _
theorem hd_live {ls : List (List α)} {p : Nat → Nat} {j : Nat} {x : α} (h : hdA ls p j = some x) : ∃ l, ls[j]? = some l ∧ l ≠ [] := by
 unfold hdA at h
 rw [List.getD_eq_getElem?_getD] at h
 cases e : ls[j]? with
 | none => rw [e] at h; simp at h
 | some l =>
  rw [e] at h
  refine ⟨l, rfl, fun e2 => ?_⟩
  subst e2
  simp at h
theorem bst_filter {ls : List (List α)} {p p' : Nat → Nat} (hp : ∀ j l, ls[j]? = some l → l ≠ [] → p' (cntL ls j) = p j) : ∀ n, n ≤ ls.length → bst κ (ls.filter lvP) p' (cntL ls n) = (bst κ ls p n).map fun jx => (cntL ls jx.1, jx.2)
 | 0, _ => rfl
 | n + 1, hn => by
  have ih := bst_filter hp n (by omega)
  have hl := List.getElem?_eq_getElem (l := ls) (i := n) (by omega)
  generalize ls[n] = l at hl
  rw [cntL_succ hl]
  by_cases c : l = []
  ·subst c
   have : hdA ls p n = none := by unfold hdA; rw [List.getD_eq_getElem?_getD, hl]; rfl
   rw [if_neg (by simp [lvP]), bst, this]
   exact ih
  ·rw [if_pos (lvP_iff.2 c)]
   have hh : hdA (ls.filter lvP) p' (cntL ls n) = hdA ls p n := by
    unfold hdA
    rw [List.getD_eq_getElem?_getD, List.getD_eq_getElem?_getD, flt_at hl c, hl, hp n l hl c]
   rw [bst, bst, hh, ih]
   cases hdA ls p n with
   | none => rfl
   | some x =>
    simp only
    cases bst κ ls p n with
    | none => rfl
    | some jx =>
     simp only [Option.map_some]
     split <;> rfl
theorem picks_filter {ls : List (List α)} : ∀ {k : Nat} {p p' : Nat → Nat}, (∀ j l, ls[j]? = some l → l ≠ [] → p' (cntL ls j) = p j) → (picks κ (ls.filter lvP) k p').map (·.2) = (picks κ ls k p).map (·.2)
 | 0, p, p', _ => rfl
 | k + 1, p, p', hp => by
  have hb := bst_filter (κ := κ) hp ls.length (Nat.le_refl _)
  have hc : cntL ls ls.length = (ls.filter lvP).length := by unfold cntL; rw [List.take_length]
  rw [hc] at hb
  rw [picks, picks, hb]
  cases hj : bst κ ls p ls.length with
  | none => rfl
  | some jx =>
   simp only [Option.map_some, List.map_cons]
   refine congrArg (jx.2 :: ·) (picks_filter fun i l hi hl => ?_)
   obtain ⟨l2, hj2, hl2⟩ := hd_live (bst_hd hj).2
   unfold bump
   by_cases c : i = jx.1
   ·subst c
    rw [if_pos rfl, if_pos rfl, hp _ l hi hl]
   ·rw [if_neg c, if_neg, hp _ l hi hl]
    rcases Nat.lt_or_gt_of_ne c with h | h
    ·have := cntL_lt h hi hl; omega
    ·have := cntL_lt h hj2 hl2; omega
theorem hdA_map {ls : List (List α)} {p : Nat → Nat} {j : Nat} : hdA (ls.map (List.map κ)) p j = (hdA ls p j).map κ := by
 unfold hdA
 rw [getD_map (List.map κ) rfl, List.getElem?_map]
theorem bst_map {ls : List (List α)} {p : Nat → Nat} : ∀ n, bst id (ls.map (List.map κ)) p n = (bst κ ls p n).map fun jx => (jx.1, κ jx.2)
 | 0 => rfl
 | n + 1 => by
  rw [bst, bst, hdA_map, bst_map n]
  cases hdA ls p n with
  | none => rfl
  | some x =>
   simp only [Option.map_some]
   cases bst κ ls p n with
   | none => rfl
   | some jx =>
    simp only [Option.map_some, id]
    split <;> rfl
theorem pkW_picks {ls : List (List α)} {φ : Wy → α} (hφ : ∀ (j q : Nat) (x : α), (ls.getD j [])[q]? = some x → φ ⟨(κ x).1, (κ x).2, (j : Int), (q : Int)⟩ = x) : ∀ (k : Nat) (p : Nat → Nat), (pkW (ls.map (List.map κ)) k p).map φ = (picks κ ls k p).map (·.2)
 | 0, p => rfl
 | k + 1, p => by
  rw [pkW, picks, List.length_map, bst_map]
  cases hj : bst κ ls p ls.length with
  | none => rfl
  | some jx =>
   simp only [Option.map_some, List.map_cons]
   rw [hφ jx.1 (p jx.1) jx.2 (bst_hd hj).2, pkW_picks hφ k]
end
theorem pkW_len {ls : List (List Co)} : ∀ {k : Nat} {p : Nat → Nat}, (pkW ls k p).length = k ∨ ((pkW ls k p).length ≤ k ∧ bst id ls (pkP ls k p) ls.length = none)
 | 0, p => .inl rfl
 | k + 1, p => by
  rw [pkW, pkP]
  cases hb : bst id ls p ls.length with
  | none => right; exact ⟨by simp, hb⟩
  | some jx =>
   simp only [List.length_cons]
   rcases pkW_len (ls := ls) (k := k) (p := bump p jx.1) with h | ⟨h, h2⟩
   ·left; omega
   ·right; exact ⟨by omega, h2⟩
theorem mrg_take (ls : List (List Co)) (m : Nat) : (mrg ls).take m = pkW ls m fun _ => 0 := by
 obtain ⟨t, ht, h2⟩ := pk_mrg ls m
 rcases pkW_len (ls := ls) (k := m) (p := fun _ => 0) with h | ⟨h, h3⟩
 ·rw [ht, List.take_append_of_le_length (by omega), List.take_of_length_le (by omega)]
 ·rw [ht, h2 h3, List.append_nil, List.take_of_length_le h]
abbrev Tl := List (List Int × Int × Int)
def tc (t : Tl) : Co := match t with
 | [] => (0, 0)
 | a :: _ => a.2
def firstT (L : List (List Tl)) (most : Nat) : List Tl := (picks tc L most fun _ => 0).map (·.2)
def ext (h : RMv) (t : Tl) : Tl := (h.ks, h.c + (tc t).1, h.m + (tc t).2) :: t
def DT (most : Nat) : Steps → Nat → List Tl
 | [], k => if k = 0 then [[([], 0, 0)]] else []
 | g :: G, k => firstT ((g.getD k []).map fun h => (DT most G h.to).map (ext h)) most
def tlW : Steps → Nat → Wy → Tl
 | [], _, _ => [([], 0, 0)]
 | g :: G, k, w => match (lvOf (WG G) (g.getD k []))[w.j.toNat]? with
  | none => []
  | some h => match (WG G h.to)[w.r.toNat]? with
   | none => []
   | some w' => ext h (tlW G h.to w')
def ToOk : Steps → Prop
 | [] => True
 | g :: G => (∀ ms ∈ g, ∀ h ∈ ms, G = [] → h.to = 0) ∧ ToOk G
theorem tlW_at {g : List (List RMv)} {G : Steps} {k : Nat} {w w' : Wy} {j q : Nat} {h : RMv} (hj : w.j = (j : Int)) (hq : w.r = (q : Int)) (h1 : (lvOf (WG G) (g.getD k []))[j]? = some h) (h2 : (WG G h.to)[q]? = some w') : tlW (g :: G) k w = ext h (tlW G h.to w') := by
 rw [tlW, hj, hq, Int.toNat_natCast, Int.toNat_natCast, h1]
 simp only [h2]
theorem tlW_cost : ∀ {G : Steps} {k : Nat} {w : Wy}, w ∈ WG G k → tc (tlW G k w) = (w.c, w.m)
 | [], k, w, h => by
  rw [WG, List.mem_singleton] at h
  subst h
  rfl
 | g :: G, k, w, h => by
  obtain ⟨j, q, m, w', hj, hq, hm, _, hw', hc, hmo⟩ := way_ok h
  rw [tlW_at hj hq hm hw']
  have := tlW_cost (List.mem_of_getElem? hw')
  show (m.c + (tc (tlW G m.to w')).1, m.m + (tc (tlW G m.to w')).2) = _
  rw [this, hc, hmo]
def vT (t : Tl) : List Int := t.flatMap (·.1)
theorem tlW_vw : ∀ {G : Steps} {k : Nat} {w : Wy}, w ∈ WG G k → vT (tlW G k w) = vwG G k w
 | [], k, w, h => by rw [tlW, vwG]; rfl
 | g :: G, k, w, h => by
  obtain ⟨j, q, m, w', hj, hq, hm, _, hw', hc, hmo⟩ := way_ok h
  rw [tlW_at hj hq hm hw', vwG, hj, hq, Int.toNat_natCast, Int.toNat_natCast, hm]
  simp only [hw']
  rw [← tlW_vw (List.mem_of_getElem? hw')]
  rfl
theorem DT_law {most : Nat} (hm : 1 ≤ most) : ∀ {G : Steps} {k : Nat}, ToOk G → (G = [] → k = 0) → DT most G k = ((WG G k).take most).map (tlW G k)
 | [], k, _, hk => by
  rw [DT, WG, if_pos (hk rfl), List.take_of_length_le (by simpa using hm)]
  rfl
 | g :: G, k, ht, _ => by
  obtain ⟨ht0, ht1⟩ := ht
  have ih : ∀ h ∈ g.getD k [], DT most G h.to = ((WG G h.to).take most).map (tlW G h.to) := fun h hh => by
   obtain ⟨ms, hms, hh⟩ := getD_memL hh
   exact DT_law hm ht1 fun e => ht0 ms hms h hh e
  obtain ⟨LF, hLF⟩ : ∃ LF : List (List Tl), LF = (g.getD k []).map fun h => (WG G h.to).map fun w => ext h (tlW G h.to w) := ⟨_, rfl⟩
  have e1 : ((g.getD k []).map fun h => (DT most G h.to).map (ext h)) = LF.map (List.take most) := by
   rw [hLF, List.map_map]
   refine List.map_congr_left fun h hh => ?_
   rw [ih h hh, List.map_map, Function.comp, ← List.map_take]
   rfl
  have e2 : LF.filter lvP = (lvOf (WG G) (g.getD k [])).map fun h => (WG G h.to).map fun w => ext h (tlW G h.to w) := by
   rw [hLF, List.filter_map]
   unfold lvOf
   refine congrArg (List.map _) (List.filter_congr fun h _ => ?_)
   simp [lvP]
  have e3 : lsOf (WG G) (g.getD k []) = (LF.filter lvP).map (List.map tc) := by
   rw [e2, List.map_map]
   unfold lsOf
   refine List.map_congr_left fun h _ => ?_
   simp only [Function.comp, List.map_map]
   refine List.map_congr_left fun w hw => ?_
   show _ = (h.c + (tc (tlW G h.to w)).1, h.m + (tc (tlW G h.to w)).2)
   rw [tlW_cost hw]
  rw [DT, e1, firstT, picks_take fun j => by omega, ← picks_filter (p' := fun _ => 0) fun _ _ _ _ => rfl, WG, mrg_take, e3, pkW_picks]
  intro j q x hx
  rw [e2, List.getD_eq_getElem?_getD, List.getElem?_map] at hx
  cases hj : (lvOf (WG G) (g.getD k []))[j]? with
  | none => rw [hj] at hx; simp at hx
  | some h =>
   rw [hj] at hx
   simp only [Option.map_some, Option.getD_some, List.getElem?_map, Option.map_eq_some_iff] at hx
   obtain ⟨w', hw', rfl⟩ := hx
   exact tlW_at rfl rfl hj hw'
end Go.Ab.V

namespace Go.Ab.V
open Go.Proofs
def ksA (l : List Int) : AV := match l with
 | [] => .nils
 | a :: l => intsA (a :: l)
theorem ksA_ne {l : List Int} (h : l ≠ []) : ksA l = intsA l := by cases l with
 | nil => exact absurd rfl h
 | cons a l => rfl
def tlA : Tl → AV
 | [] => .nilp
 | a :: r => .lptr 4 [[ksA a.1, .int .i64 a.2.1, .int .i64 a.2.2, tlA r]] 0 0
abbrev rowsTl (l : List Tl) : List (List AV) := l.map fun t => [tlA t]
def tlsA (l : List Tl) : AV := .lslc 1 (rowsTl l) 0 l.length false
abbrev rowsTt (L : List (List Tl)) : List (List AV) := L.map fun l => [tlsA l]
def ttA (L : List (List Tl)) : AV := .lslc 1 (rowsTt L) 0 L.length false
theorem pure_rowsTl (l : List Tl) : pureRows (rowsTl l) := pure_map l fun t => by cases t <;> rfl
theorem pure_rowsTt (l : List (List Tl)) : pureRows (rowsTt l) := pure_map l fun t => rfl
def atL (p : Nat → Nat) (n : Nat) : List Int := (List.range n).map fun j => (p j : Int)
theorem atL_at {p : Nat → Nat} {n j : Nat} (h : j < n) : (ints (atL p n))[j]? = some [.int .i64 (p j : Int)] := by
 unfold ints atL
 rw [List.getElem?_map, List.getElem?_map, List.getElem?_range h]
 rfl
theorem atL_row {p : Nat → Nat} {n j : Nat} (h : j < n) : (ints (atL p n))[0 + ((j : Nat) : Int).toNat]? = some [.int .i64 (p j : Int)] := by
 rw [Nat.zero_add, Int.toNat_natCast, atL_at h]
theorem atL_set {p : Nat → Nat} {n j : Nat} (h : j < n) : (ints (atL p n)).set j [.int .i64 ((p j : Int) + 1)] = ints (atL (bump p j) n) := by
 refine List.ext_getElem? fun i => ?_
 by_cases c : i < n
 ·rw [List.getElem?_set]
  by_cases e : j = i
  ·subst e
   rw [if_pos rfl, if_pos (by simp [ints, atL]; exact h)]
   rw [atL_at (p := bump p j) c, show bump p j j = p j + 1 from if_pos rfl]
   rfl
  ·rw [if_neg e, atL_at (p := bump p j) c, atL_at (p := p) c, show bump p j i = p i from if_neg fun h => e h.symm]
 ·rw [List.getElem?_eq_none (by simp [ints, atL]; omega), List.getElem?_eq_none (by simp [ints, atL]; omega)]
theorem atL_zero {n : Nat} : List.replicate n ([.int .i64 0] : List AV) = ints (atL (fun _ => 0) n) := by
 refine List.ext_getElem? fun i => ?_
 by_cases c : i < n
 ·rw [atL_at c, List.getElem?_replicate, if_pos c]; rfl
 ·rw [List.getElem?_eq_none (by simp; omega), List.getElem?_eq_none (by simp [ints, atL]; omega)]
def stB (i : Nat) (x : Option Tl) (b : Option (Nat × Tl)) : Option (Nat × Tl) := match x with
 | none => b
 | some x => match b with
  | none => some (i, x)
  | some by' => if cl (tc x) (tc by'.2) then some (i, x) else some by'
theorem bst_st {L : List (List Tl)} {p : Nat → Nat} {i : Nat} {b : Option (Nat × Tl)} (hb : bst tc L p i = b) : bst tc L p (i + 1) = stB i (hdA L p i) b := by
 subst hb
 unfold stB
 rw [bst]
 cases hdA L p i with
 | none => rfl
 | some x => cases bst tc L p i <;> rfl
def bI (b : Option (Nat × Tl)) : Int := match b with
 | none => -1
 | some jx => (jx.1 : Int)
structure TtOk (L : List (List Tl)) : Prop where
 len : L.length ≤ 1000000
 ls : ∀ l ∈ L, l.length ≤ 1000000 ∧ ∀ t ∈ l, t ≠ []
def A67 : Ann := fun r => match r with
 | 2 => { slots := [(2, 0)] }
 | 16 => { slots := [(11, 1), (12, 2)] }
 | _ => {}
structure F67 where
 e0 : Nat
 e3 : Nat
 p : Nat → Nat
 out : List Tl
structure F67.Ok (L : List (List Tl)) (most : Nat) (z : F67) : Prop where
 hp : ∀ j, z.p j ≤ (L.getD j []).length
 hl : z.out.length ≤ most
 hu : z.out ++ ((picks tc L (most - z.out.length) z.p).map (·.2)) = firstT L most
set_option maxHeartbeats 16000000 in
set_option maxRecDepth 100000 in
theorem first67 (L : List (List Tl)) (hL : TtOk L) (most : Nat) (hm : most ≤ 64) : PRet C.P 67 [ttA L, .int .i64 (most : Int)] (tlsA (firstT L most)) := by
 obtain ⟨R, hR⟩ : ∃ R, R = firstT L most := ⟨_, rfl⟩
 rw [← hR]
 have hL1 := hL.len
 refine pret_of (okx [] []) mixed (A := A67) 4 Try.func67 rfl ?_
 unfold ttA
 (repeat' (first | exact rfl | ((conv => whnf); first | exact rfl | exact ⟨rfl, rfl⟩ | refine dk (by kernel_rfl) ?_ | refine pk (by kernel_rfl) ?_ | refine ⟨rfl, ?_⟩ | refine ⟨by (first | omega | (simp (disch := omega) only [wrapI]; first | omega | (simp; omega)) | (simp; omega)), ?_⟩ | (intro ep) | (refine ifB (fun hb => ?_) (fun hb => ?_) <;> (try simp only [qs] at hb) <;> (try simp (disch := omega) only [wrapI] at hb) <;> (try (exfalso; omega))) | fail)))
 all_goals (conv => whnf)
 refine wk_lift 5 3 1 rfl ?_
 intro e3
 have ok : COk (Cx [] []) := okx [] []
 refine loopY (okx [] []) mixed (A := A67) [0, 1, 5, 6] [0, 3] (S := { z : F67 // z.Ok L most })
  (fr := fun z => frOf 0 111 [(0, ttA L), (1, .int .i64 (most : Int)), (5, .oslc (.s 3) z.1.e3 1 0 z.1.out.length false), (6, .oslc (.s 0) z.1.e0 1 0 L.length false)])
  (h := fun z => ⟨[.vec z.1.e0 (ints (atL z.1.p L.length)), .hole, .hole, .vec z.1.e3 (rowsTl z.1.out)], []⟩) (μ := fun z => most - z.1.out.length)
  ⟨⟨ep, e3, fun _ => 0, []⟩, ⟨fun _ => Nat.zero_le _, Nat.zero_le _, rfl⟩⟩ ?_ ?_
  [5] [3] (S' := Nat) (X := fun _ => 0) (frX := fun e3 => frOf 0 111 [(5, .oslc (.s 3) e3 1 0 R.length false)]) (hX := fun e3 => ⟨[.hole, .hole, .hole, .vec e3 (rowsTl R)], []⟩)
  [] [] (S2 := Empty) (frR := fun _ => []) (hR := fun _ => Heap.nil) ?_ (fun z => z.elim) ?_
 ·exact rfl
 ·show (⟨[.vec ep _, .hole, .hole, .vec e3 []], []⟩ : Heap) = _
  rw [← atL_zero]
  exact rfl
 ·rintro ⟨⟨e0, e3, p, out⟩, hz⟩
  obtain ⟨hp, hl, hu⟩ := hz
  simp only at hp hl hu
  show aexR _ _ _ (frOf 0 111 [(0, ttA L), (1, .int .i64 (most : Int)), (5, .oslc (.s 3) e3 1 0 out.length false), (6, .oslc (.s 0) e0 1 0 L.length false)])
   ⟨[.vec e0 (ints (atL p L.length)), .hole, .hole, .vec e3 (rowsTl out)], []⟩ _
  unfold ttA
  (conv => whnf)
  refine ifB (fun g => ?_) (fun g => ?_)
  ·simp only [decide_eq_true_eq] at g
   have g : out.length < most := by omega
   rw [show most - out.length = (most - out.length - 1) + 1 by omega, picks] at hu
   obtain ⟨B, hB⟩ : ∃ B, B = bst tc L p L.length := ⟨_, rfl⟩
   rw [← hB] at hu
   have hrl : ∀ j (h : j < L.length), (rowsTt L)[0 + ((j : Nat) : Int).toNat]? = some [tlsA L[j]] := fun j h => mapR (f := fun l => [tlsA l]) h
   (repeat' (first | ((conv => whnf); first | exact rfl | exact ⟨rfl, rfl⟩ | refine dk (by kernel_rfl) ?_ | refine pk (by kernel_rfl) ?_ | refine ⟨rfl, ?_⟩ | refine ⟨by (first | omega | (simp (disch := omega) only [wrapI]; first | omega | (simp; omega)) | (simp; omega)), ?_⟩ | (intro ep) | fail)))
   all_goals (conv => whnf)
   refine loopY (okx [] []) mixed (A := A67) [0, 1, 5, 6, 7, 8] [0, 3] (S := { z : Nat × Option (Nat × Tl) // z.1 ≤ L.length ∧ bst tc L p z.1 = z.2 })
    (fr := fun z => frOf 0 111 [(0, ttA L), (1, .int .i64 (most : Int)), (5, .oslc (.s 3) e3 1 0 out.length false), (6, .oslc (.s 0) e0 1 0 L.length false), (7, .int .i64 (bI z.1.2)), (8, .int .i64 (z.1.1 : Int))])
    (h := fun _ => ⟨[.vec e0 (ints (atL p L.length)), .hole, .hole, .vec e3 (rowsTl out)], []⟩) (μ := fun z => L.length - z.1.1)
    ⟨(0, none), Nat.zero_le _, rfl⟩ ?_ ?_
    [0, 1, 5, 6, 7] [0, 3] (S' := Unit) (X := fun _ => 2) (frX := fun _ => frOf 0 111 [(0, ttA L), (1, .int .i64 (most : Int)), (5, .oslc (.s 3) e3 1 0 out.length false), (6, .oslc (.s 0) e0 1 0 L.length false), (7, .int .i64 (bI B))])
    (hX := fun _ => ⟨[.vec e0 (ints (atL p L.length)), .hole, .hole, .vec e3 (rowsTl out)], []⟩)
    [] [] (S2 := Empty) (frR := fun _ => []) (hR := fun _ => Heap.nil) ?_ (fun z => z.elim) ?_
   ·exact rfl
   ·exact rfl
   ·rintro ⟨⟨i, b⟩, hi, hb⟩
    simp only at hi hb
    show aexR _ _ _ (frOf 0 111 [(0, ttA L), (1, .int .i64 (most : Int)), (5, .oslc (.s 3) e3 1 0 out.length false), (6, .oslc (.s 0) e0 1 0 L.length false), (7, .int .i64 (bI b)), (8, .int .i64 (i : Int))])
     ⟨[.vec e0 (ints (atL p L.length)), .hole, .hole, .vec e3 (rowsTl out)], []⟩ _
    unfold ttA
    (conv => whnf)
    refine ifB (fun g1 => ?_) (fun g1 => ?_)
    ·simp only [decide_eq_true_eq] at g1
     have g1 : i < L.length := by omega
     have r1 := atL_row (p := p) g1
     have r2 := hrl i g1
     have hLi := hL.ls _ (List.getElem_mem g1)
     have hpi := hp i
     rw [List.getD_eq_getElem?_getD, List.getElem?_eq_getElem g1, Option.getD_some] at hpi
     have hhd : hdA L p i = L[i][p i]? := by unfold hdA; rw [List.getD_eq_getElem?_getD, List.getElem?_eq_getElem g1]; rfl
     have hst := bst_st (L := L) hb
     rw [hhd] at hst
     generalize L[i] = l at r2 hLi hpi hst
     unfold tlsA at r2
     by_cases c : p i = l.length
     ·rw [List.getElem?_eq_none (by omega)] at hst
      (repeat' (first | ((conv => whnf); first | refine optS r1 ?_ | refine optS r2 ?_ | exact rfl | exact ⟨rfl, rfl⟩ | refine dk (by kernel_rfl) ?_ | refine pk (by kernel_rfl) ?_ | refine ⟨rfl, ?_⟩ | refine ⟨by (first | omega | (simp (disch := omega) only [wrapI]; first | omega | (simp; omega)) | (simp; omega)), ?_⟩ | (intro ep) | (refine ifB (fun hb => ?_) (fun hb => ?_) <;> (try simp only [qs] at hb) <;> (try simp (disch := omega) only [wrapI] at hb) <;> (try (exfalso; omega))) | fail)))
      all_goals (conv => whnf)
      all_goals exact back_of ⟨(i + 1, b), g1, hst⟩ ⟨by (first | exact rfl | (simp (disch := omega) only [wrapI]; exact rfl)), rfl, by simp only; omega⟩
     ·have c : p i < l.length := by omega
      have ht := List.getElem?_eq_getElem c
      have hne := hLi.2 _ (List.getElem_mem c)
      have r3 : (rowsTl l)[0 + ((p i : Nat) : Int).toNat]? = some [tlA l[p i]] := mapR (f := fun t => [tlA t]) c
      rw [ht] at hst
      generalize l[p i] = t at r3 hne hst
      obtain ⟨⟨ks, c1, m1⟩, r, rfl⟩ : ∃ a r, t = a :: r := by
       cases t with
       | nil => exact absurd rfl hne
       | cons a r => exact ⟨a, r, rfl⟩
      cases b with
      | none =>
       simp only [stB] at hst
       unfold bI
       (repeat' (first | ((conv => whnf); first | refine optS r1 ?_ | refine optS r2 ?_ | refine optS r3 ?_ | exact rfl | exact ⟨rfl, rfl⟩ | refine dk (by kernel_rfl) ?_ | refine pk (by kernel_rfl) ?_ | refine ⟨rfl, ?_⟩ | refine ⟨by (first | omega | (simp (disch := omega) only [wrapI]; first | omega | (simp; omega)) | (simp; omega)), ?_⟩ | (intro ep) | (refine ifB (fun hb => ?_) (fun hb => ?_) <;> (try simp only [qs] at hb) <;> (try simp (disch := omega) only [wrapI] at hb) <;> (try (exfalso; omega))) | fail)))
       all_goals (conv => whnf)
       all_goals exact back_of ⟨(i + 1, some (i, (ks, c1, m1) :: r)), g1, hst⟩ ⟨by (first | exact rfl | (simp (disch := omega) only [wrapI]; exact rfl)), rfl, by simp only; omega⟩
      | some jy =>
       obtain ⟨j, y⟩ := jy
       obtain ⟨hj, hy⟩ := bst_hd hb
       have hjL : j < L.length := by omega
       unfold hdA at hy
       rw [List.getD_eq_getElem?_getD, List.getElem?_eq_getElem hjL, Option.getD_some] at hy
       have r4 := atL_row (p := p) hjL
       have r5 := hrl j hjL
       have hLj := hL.ls _ (List.getElem_mem hjL)
       generalize L[j] = l2 at hy r5 hLj
       obtain ⟨hpj, hy2⟩ := List.getElem?_eq_some_iff.1 hy
       have r6 : (rowsTl l2)[0 + ((p j : Nat) : Int).toNat]? = some [tlA y] := by rw [← hy2]; exact mapR (f := fun t => [tlA t]) hpj
       have hne2 : y ≠ [] := by rw [← hy2]; exact hLj.2 _ (List.getElem_mem hpj)
       obtain ⟨⟨ks2, c2, m2⟩, r', rfl⟩ : ∃ a r, y = a :: r := by
        cases y with
        | nil => exact absurd rfl hne2
        | cons a r => exact ⟨a, r, rfl⟩
       unfold tlsA at r5
       simp only [stB] at hst
       unfold bI
       (repeat' (first | ((conv => whnf); first | refine optS r1 ?_ | refine optS r2 ?_ | refine optS r3 ?_ | refine optS r4 ?_ | refine optS r5 ?_ | refine optS r6 ?_ | exact rfl | exact ⟨rfl, rfl⟩ | refine dk (by kernel_rfl) ?_ | refine pk (by kernel_rfl) ?_ | refine ⟨rfl, ?_⟩ | refine ⟨by (first | omega | (simp (disch := omega) only [wrapI]; first | omega | (simp; omega)) | (simp; omega)), ?_⟩ | (intro ep) | (refine ifB (fun hb => ?_) (fun hb => ?_) <;> (try simp only [qs] at hb) <;> (try simp (disch := omega) only [wrapI] at hb) <;> (try (exfalso; omega))) | fail)))
       all_goals (conv => whnf)
       all_goals first
        | exact back_of ⟨(i + 1, some (i, (ks, c1, m1) :: r)), g1, by rw [hst, if_pos (cl_iff.2 (by simp only [tc]; omega))]⟩ ⟨by (first | exact rfl | (simp (disch := omega) only [wrapI]; exact rfl)), rfl, by simp only; omega⟩
        | exact back_of ⟨(i + 1, some (j, (ks2, c2, m2) :: r')), g1, by rw [hst, if_neg (fun h => by have := cl_iff.1 h; simp only [tc] at this; omega)]⟩ ⟨by (first | exact rfl | (simp (disch := omega) only [wrapI]; exact rfl)), rfl, by simp only; omega⟩
    ·simp only [decide_eq_false_iff_not] at g1
     have g1 : i = L.length := by omega
     subst g1
     (repeat' (first | ((conv => whnf); first | exact rfl | exact ⟨rfl, rfl⟩ | refine dk (by kernel_rfl) ?_ | refine pk (by kernel_rfl) ?_ | refine ⟨rfl, ?_⟩ | refine ⟨by (first | omega | (simp (disch := omega) only [wrapI]; first | omega | (simp; omega)) | (simp; omega)), ?_⟩ | (intro ep) | fail)))
     all_goals (conv => whnf)
     rw [← hB] at hb
     subst hb
     exact back_of () ⟨rfl, rfl, rfl⟩
   ·rintro ⟨⟩
    cases hBB : B with
    | none =>
     rw [hBB] at hu
     simp only [List.map_nil, List.append_nil] at hu
     have e : R = out := by rw [hR, ← hu]
     unfold bI
     (repeat' (first | ((conv => whnf); first | exact rfl | exact ⟨rfl, rfl⟩ | refine dk (by kernel_rfl) ?_ | refine pk (by kernel_rfl) ?_ | refine ⟨rfl, ?_⟩ | refine ⟨by (first | omega | (simp (disch := omega) only [wrapI]; first | omega | (simp; omega)) | (simp; omega)), ?_⟩ | (intro ep) | (refine ifB (fun hb => ?_) (fun hb => ?_) <;> (try simp only [qs] at hb) <;> (try simp (disch := omega) only [wrapI] at hb) <;> (try (exfalso; omega))) | fail)))
     all_goals (conv => whnf)
     rw [e]
     exact back_of e3 ⟨rfl, rfl, rfl⟩
    | some jx =>
     obtain ⟨j, t⟩ := jx
     rw [hBB] at hu hB
     simp only [List.map_cons] at hu
     obtain ⟨hj, hy⟩ := bst_hd hB.symm
     unfold hdA at hy
     have hpj0 := (List.getElem?_eq_some_iff.1 hy).1
     rw [List.getD_eq_getElem?_getD, List.getElem?_eq_getElem hj, Option.getD_some] at hy
     have r4 := atL_row (p := p) hj
     have r5 := hrl j hj
     have hLj := hL.ls _ (List.getElem_mem hj)
     generalize L[j] = l2 at hy r5 hLj
     obtain ⟨hpj, hy2⟩ := List.getElem?_eq_some_iff.1 hy
     have r6 : (rowsTl l2)[0 + ((p j : Nat) : Int).toNat]? = some [tlA t] := by rw [← hy2]; exact mapR (f := fun t => [tlA t]) hpj
     have hne2 : t ≠ [] := by rw [← hy2]; exact hLj.2 _ (List.getElem_mem hpj)
     obtain ⟨⟨ks2, c2, m2⟩, r', rfl⟩ : ∃ a r, t = a :: r := by
      cases t with
      | nil => exact absurd rfl hne2
      | cons a r => exact ⟨a, r, rfl⟩
     obtain ⟨t, ht⟩ : ∃ t, t = (ks2, c2, m2) :: r' := ⟨_, rfl⟩
     unfold tlsA at r5
     have hw : IntKind.i64.wrap ((p j : Int) + 1) = (p j : Int) + 1 := wrapI (by omega) (by omega)
     have hset : (ints (atL p L.length)).set (0 + ((j : Nat) : Int).toNat) [.int .i64 (IntKind.i64.wrap ((p j : Int) + 1))] = ints (atL (bump p j) L.length) := by
      rw [hw, Nat.zero_add, Int.toNat_natCast, atL_set hj]
     have tO : List.take out.length (List.drop 0 (rowsTl out)) = rowsTl out := by rw [List.drop_zero, List.take_of_length_le (by simp)]
     have hHs : rowsTl (out ++ [t]) = List.take out.length (List.drop 0 (rowsTl out)) ++ [[tlA ((ks2, c2, m2) :: r')]] := by rw [tO, ht]; simp
     have hHl : (out ++ [t]).length = out.length + 1 := by simp
     unfold bI
     (repeat' (first | ((conv => whnf); first | refine optS r4 ?_ | refine optS r5 ?_ | refine optS r6 ?_ | exact rfl | exact ⟨rfl, rfl⟩ | refine dk (by kernel_rfl) ?_ | refine pk (by kernel_rfl) ?_ | refine ⟨rfl, ?_⟩ | refine ⟨by (first | omega | (simp (disch := omega) only [wrapI]; first | omega | (simp; omega)) | (simp; omega)), ?_⟩ | (intro ep) | (refine ifB (fun hb => ?_) (fun hb => ?_) <;> (try simp only [qs] at hb) <;> (try simp (disch := omega) only [wrapI] at hb) <;> (try (exfalso; omega))) | fail)))
     all_goals (conv => whnf)
     refine back_of (S := { z : F67 // z.Ok L most }) ⟨⟨e0, ep, bump p j, out ++ [t]⟩, ⟨fun i => ?_, by simp only [hHl]; omega, ?_⟩⟩ ⟨?_, ?_, ?_⟩
     ·have := hp i
      simp only
      unfold bump
      split
      ·rename_i e; subst e; omega
      ·exact this
     ·simp only [hHl]
      rw [← hu, ht, show most - (out.length + 1) = most - out.length - 1 by omega]
      simp
     ·simp only [hHl]
      exact rfl
     ·simp only [hHs, ← hset]
      exact rfl
     ·simp only [hHl]
      omega
  ·simp only [decide_eq_false_iff_not] at g
   have g : out.length = most := by omega
   rw [show most - out.length = 0 by omega, picks, List.map_nil, List.append_nil] at hu
   subst hu
   (repeat' (first | ((conv => whnf); first | exact rfl | exact ⟨rfl, rfl⟩ | refine dk (by kernel_rfl) ?_ | refine pk (by kernel_rfl) ?_ | refine ⟨rfl, ?_⟩ | refine ⟨by (first | omega | (simp (disch := omega) only [wrapI]; first | omega | (simp; omega)) | (simp; omega)), ?_⟩ | (intro ep) | fail)))
   all_goals (conv => whnf)
   rw [hR]
   exact back_of e3 ⟨rfl, rfl, rfl⟩
 ·intro e3
  (repeat' (first | ((conv => whnf); first | refine ⟨pure_rowsTl R, ?_⟩ | exact rfl | exact ⟨rfl, rfl⟩ | refine dk (by kernel_rfl) ?_ | refine pk (by kernel_rfl) ?_ | refine ⟨rfl, ?_⟩ | refine ⟨by (first | omega | (simp (disch := omega) only [wrapI]; first | omega | (simp; omega)) | (simp; omega)), ?_⟩ | (intro ep) | (refine ifB (fun hb => ?_) (fun hb => ?_) <;> (try simp only [qs] at hb) <;> (try simp (disch := omega) only [wrapI] at hb) <;> (try (exfalso; omega))) | fail)))
end Go.Ab.V

namespace Go.Ab.V
def szG (G : Steps) (d : Nat) : Nat := if d < G.length then (G.getD d []).length else 1
def AfL (most : Nat) (G : Steps) (d : Nat) : List (List Tl) := (List.range (szG G d)).map fun k => DT most (G.drop d) k
structure SOk (G : Steps) : Prop where
 len : G.length ≤ 5600
 bd : GBd G
 to : ToOk G
 sz : ∀ i, (G.getD i []).length ≤ 100000000
 ms : ∀ i k, ((G.getD i []).getD k []).length ≤ 1000000
 nx : ∀ i k h, h ∈ (G.getD i []).getD k [] → h.to < szG G (i + 1)
 ks : ∀ g ∈ G, ∀ ms ∈ g, ∀ h ∈ ms, 0 < h.ks.length ∧ h.ks.length ≤ 100000
 one : 0 < szG G 0
structure TlOk (t : Tl) : Prop where
 ne : t ≠ []
 len : t.length ≤ 5601
 ks : ∀ a ∈ t, a.1.length ≤ 100000
 c : 0 ≤ (tc t).1 ∧ (tc t).1 ≤ 5600000000
 m : 0 ≤ (tc t).2 ∧ (tc t).2 ≤ 5600000000
theorem toOk_drop : ∀ {G : Steps} {d : Nat}, ToOk G → ToOk (G.drop d)
 | G, 0, h => by rw [List.drop_zero]; exact h
 | [], d + 1, h => by rw [List.drop_nil]; trivial
 | g :: G, d + 1, h => by rw [List.drop_succ_cons]; exact toOk_drop h.2
theorem tlW_wf : ∀ {G : Steps}, (∀ g ∈ G, ∀ ms ∈ g, ∀ h ∈ ms, 0 < h.ks.length ∧ h.ks.length ≤ 100000) → ∀ {k : Nat} {w : Wy}, w ∈ WG G k → (tlW G k w).length = G.length + 1 ∧ ∀ a ∈ tlW G k w, a.1.length ≤ 100000
 | [], _, k, w, h => by
  rw [tlW]
  exact ⟨rfl, fun a ha => by rw [List.mem_singleton.1 ha]; simp⟩
 | g :: G, hk, k, w, h => by
  obtain ⟨j, q, m, w', hj, hq, hm, hmm, hw', _, _⟩ := way_ok h
  rw [tlW_at hj hq hm hw']
  obtain ⟨h1, h2⟩ := tlW_wf (fun g hg => hk g (List.mem_cons_of_mem _ hg)) (List.mem_of_getElem? hw')
  obtain ⟨ms, hms, hmm⟩ := getD_memL hmm
  refine ⟨by unfold ext; simp [h1], fun a ha => ?_⟩
  unfold ext at ha
  rcases List.mem_cons.1 ha with rfl | ha
  ·exact (hk g (List.mem_cons_self ..) ms hms m hmm).2
  ·exact h2 a ha
theorem DT_mem {most : Nat} (hm : 1 ≤ most) {G : Steps} (ok : SOk G) {d k : Nat} (hd : d ≤ G.length) (hk : k < szG G d) : DT most (G.drop d) k = ((WG (G.drop d) k).take most).map (tlW (G.drop d) k) := by
 refine DT_law hm (toOk_drop ok.to) fun e => ?_
 have : d = G.length := by have := congrArg List.length e; rw [List.length_drop, List.length_nil] at this; omega
 unfold szG at hk
 rw [if_neg (by omega)] at hk
 omega
theorem DT_ok {most : Nat} (hm : 1 ≤ most) {G : Steps} (ok : SOk G) {d k : Nat} (hd : d ≤ G.length) (hk : k < szG G d) : ∀ t ∈ DT most (G.drop d) k, TlOk t := by
 intro t ht
 rw [DT_mem hm ok hd hk] at ht
 obtain ⟨w, hw, rfl⟩ := List.mem_map.1 ht
 have hw := List.mem_of_mem_take hw
 obtain ⟨h1, h2⟩ := tlW_wf (fun g hg => ok.ks g (List.mem_of_mem_drop hg)) hw
 have hb := WG_bd (G := G.drop d) (fun g hg => ok.bd g (List.mem_of_mem_drop hg)) k w hw
 have hl := ok.len
 have hdl : (G.drop d).length ≤ 5600 := by rw [List.length_drop]; omega
 have hc := tlW_cost hw
 refine ⟨fun e => by rw [e] at h1; simp at h1, by omega, h2, ?_, ?_⟩
 ·rw [hc]; simp only; omega
 ·rw [hc]; simp only; omega
theorem DT_len {most : Nat} (hm : 1 ≤ most) : ∀ (G : Steps) (k : Nat), (DT most G k).length ≤ most
 | [], k => by rw [DT]; split <;> simp; omega
 | g :: G, k => by rw [DT, firstT, List.length_map]; exact picks_len
theorem AfL_at {most : Nat} {G : Steps} {d k : Nat} (h : k < szG G d) : (AfL most G d)[k]? = some (DT most (G.drop d) k) := by
 unfold AfL
 rw [List.getElem?_map, List.getElem?_range h]
 rfl
theorem AfL_len {most : Nat} {G : Steps} {d : Nat} : (AfL most G d).length = szG G d := by simp [AfL]
theorem AfL_end {most : Nat} {G : Steps} : AfL most G G.length = [[[([], 0, 0)]]] := by
 unfold AfL szG
 rw [if_neg (by omega), List.drop_length]
 rfl
def llC (most : Nat) (G' : Steps) (ms : List RMv) : List (List Tl) := ms.map fun h => (DT most G' h.to).map (ext h)
theorem DT_cons {most : Nat} {g : List (List RMv)} {G' : Steps} {k : Nat} : DT most (g :: G') k = firstT (llC most G' (g.getD k [])) most := rfl
theorem llC_ok {most : Nat} (hm : 1 ≤ most ∧ most ≤ 64) {G' : Steps} {ms : List RMv} (h : ms.length ≤ 1000000) : TtOk (llC most G' ms) := by
 refine ⟨by unfold llC; simpa using h, fun l hl => ?_⟩
 obtain ⟨m, _, rfl⟩ := List.mem_map.1 hl
 have := DT_len hm.1 G' m.to
 refine ⟨by rw [List.length_map]; omega, fun t ht => ?_⟩
 obtain ⟨t', _, rfl⟩ := List.mem_map.1 ht
 unfold ext
 simp
def voiD (most : Nat) (G : Steps) : List (List AV) := (DT most G 0).map fun t => voiR (vT t) (tc t).1 (tc t).2
theorem voiD_L {most : Nat} (hm : 1 ≤ most) {G : Steps} (ok : SOk G) : voiD most G = voiL G most := by
 have := DT_mem hm ok (d := 0) (k := 0) (Nat.zero_le _) ok.one
 rw [List.drop_zero] at this
 unfold voiD voiL
 rw [this, List.map_map]
 refine List.map_congr_left fun w hw => ?_
 have hw := List.mem_of_mem_take hw
 show voiR (vT (tlW G 0 w)) (tc (tlW G 0 w)).1 (tc (tlW G 0 w)).2 = _
 rw [tlW_cost hw, tlW_vw hw]
end Go.Ab.V
