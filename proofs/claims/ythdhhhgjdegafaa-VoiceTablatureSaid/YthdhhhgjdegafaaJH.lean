/-
  What is proved here serves the law's text: each part says its own claim and its conditions. No condition is left open.
-/
import Derived.Test.YthdhhhgjdegafaaJE
import Derived.Test.YthdhhhgjdegafaaJF
import Derived.Test.YthdhhhgjdegafaaJG
set_option linter.unusedSimpArgs false
set_option linter.unusedVariables false

namespace Go.Ab.V
open Go.Proofs
def A44b : Ann := fun r => match r with
 | 3 => { slots := [(0, 0), (2, 1)], frz := [2005, 1000] }
 | _ => {}
set_option maxHeartbeats 1000000 in
set_option maxRecDepth 100000 in
theorem cloneX (l : List Int) (hl0 : 0 < l.length) (hl : l.length ≤ 100000) {h : Heap} {id : Id} {e : Nat} {R : List (List AV)} (ho : h[id]? = some (.vec e R)) (hR : R.take l.length = ints l) (hp : pureRows R) {K : AV → Heap → Prop} (hK : K (intsA l) h) :
  ACalls C.P 44 [.oslc id e 1 0 l.length false] h K := by
 have hRl : l.length ≤ R.length := by
  have := congrArg List.length hR
  simp [ints] at this
  omega
 refine ACalls.atS (q := 2) (stq := fun e0 => [.hole, .hole, .vec e0 R]) (rows := R) (rows1 := R) hl0 (fun e0 => ?_) ?_ rfl hp hp rfl ho (by rw [Heap.set_self ho]; exact hK)
 ·refine fn_of ok mixed (A := A44b) 3 Try.func44 rfl ?_
  (repeat' (first | exact rfl | ((conv => whnf); first | exact rfl | exact ⟨rfl, rfl⟩ | refine go1 ?_ | (intro ep) | fail)))
  all_goals (conv => whnf)
  have t1 : List.take l.length (List.drop 0 R) = ints l := by rw [List.drop_zero, hR]
  refine ⟨(show pureRows (List.take l.length (List.drop 0 R)) by rw [t1]; exact pure_ints l), by (repeat' (first | exact trivial | exact rfl | ((conv => whnf); first | exact trivial | exact rfl | refine ⟨?_, ?_⟩ | fail))), ⟨trivial, trivial, eqsP_pure hp, trivial, trivial, trivial, trivial⟩, trivial, ?_⟩
  (repeat' (first | ((conv => whnf); first | exact rfl | exact ⟨rfl, rfl⟩ | refine go1 ?_ | (intro ep) | fail)))
  all_goals (conv => whnf)
  refine ⟨?_, ?_⟩
  ·show AV.lslc 1 (List.take l.length (List.drop 0 R)) 0 (0 + (List.take l.length (List.drop 0 R)).length) false = _
   rw [t1]
   unfold intsA
   simp [ints]
  ·show some (AObj.vec e0 (R.map fun r : List AV => r.map (fcS 0 _))) = _
   rw [fcS_pure hp]
 ·intro e0 k o hk
  match k with
  | 0 | 1 => right; exact (Option.some.inj hk).symm
  | 2 => left; exact ⟨rfl, (Option.some.inj hk).symm⟩
  | k + 3 => simp at hk
end Go.Ab.V

namespace Go.Ab.V
open Go.Proofs
def mvRow (h : RMv) : List AV := [intsA h.ks, .int .i64 h.c, .int .i64 h.m, .int .i64 (h.to : Int)]
abbrev rowsMv (l : List RMv) : List (List AV) := l.map mvRow
theorem pure_rowsMv (l : List RMv) : pureRows (rowsMv l) := pure_map l fun x => rfl
structure Nd where
 ms : List RMv
 fd : List Wy
 op : List Wy
 due : Bool
 e : Nat
 eM : Nat
 eF : Nat
 eO : Nat
 off : Nat
 rO : List (List AV)
structure Nd.Ok (d : Nd) : Prop where
 rows : (d.rO.drop d.off).take d.op.length = rowsW d.op
 pure : pureRows d.rO
 le : d.off + d.op.length ≤ d.rO.length
def Nd.row (d : Nd) (L : Nat) : List AV := nodR (.oslc (.d (L + 1)) d.eM 4 0 d.ms.length false) (.oslc (.d (L + 2)) d.eF 4 0 d.fd.length false) (L + 3) d.eO d.off d.op.length d.due
def nodO (L : Nat) (d : Nd) : List AObj := [.vec d.e [d.row L], .vec d.eM (rowsMv d.ms), .vec d.eF (rowsW d.fd), .vec d.eO d.rO]
theorem app_get {α : Type} {A B : List α} {L k : Nat} (hL : A.length = L) : (A ++ B)[L + k]? = B[k]? := by
 subst hL
 rw [List.getElem?_append_right (by omega)]
 congr 1
 omega
theorem app_set {α : Type} {A B : List α} {L k : Nat} {o : α} (hL : A.length = L) : (A ++ B).set (L + k) o = A ++ B.set k o := by
 subst hL
 rw [List.set_append_right _ _ (by omega)]
 congr 2
 omega
def tellN (rs : List Co) (ds : List Bool) (h : RMv) (d : Nd) (eM eO : Nat) : Nd := if ds.getD h.to true = true then d else
 let w : Wy := ⟨h.c + (rs.getD h.to (0, 0)).1, h.m + (rs.getD h.to (0, 0)).2, (d.ms.length : Int), 0⟩
 { d with ms := d.ms ++ [h], op := insA (befW w d.op) w d.op, eM := eM, eO := eO, off := 0, rO := rowsW (insA (befW w d.op) w d.op) }
def Nd.put (d : Nd) (w : Wy) (e' : Nat) : Nd := { d with op := insA (befW w d.op) w d.op, eO := e', off := 0, rO := rowsW (insA (befW w d.op) w d.op) }
theorem put_dy {A : List AObj} {L : Nat} (hA : A.length = L) (d : Nd) (w : Wy) (e' : Nat) :
  ((A ++ nodO L d).set (L + 3) (.vec e' (rowsW (insA (befW w d.op) w d.op)))).set L (.vec d.e [nodR (.oslc (.d (L + 1)) d.eM 4 0 d.ms.length false) (.oslc (.d (L + 2)) d.eF 4 0 d.fd.length false) (L + 3) e' 0 (d.op.length + 1) d.due]) = A ++ nodO L (d.put w e') := by
 rw [app_set hA, show L = L + 0 from rfl, app_set (L := L + 0) (k := 0) hA]
 unfold nodO Nd.row Nd.put
 simp only [insA_len (befW_le w d.op)]
 rfl
def Nd.push (d : Nd) (h : RMv) (e' : Nat) : Nd := { d with ms := d.ms ++ [h], eM := e' }
theorem push_dy {A : List AObj} {L : Nat} (hA : A.length = L) (d : Nd) (h : RMv) (e' : Nat) :
  ((A ++ nodO L d).set (L + 1) (.vec e' (List.take d.ms.length (List.drop 0 (rowsMv d.ms)) ++ [mvRow h]))).set L (.vec d.e [nodR (.oslc (.d (L + 1)) e' 4 0 (d.ms.length + 1) false) (.oslc (.d (L + 2)) d.eF 4 0 d.fd.length false) (L + 3) d.eO d.off d.op.length d.due]) = A ++ nodO L (d.push h e') := by
 rw [app_set hA, show L = L + 0 from rfl, app_set (L := L + 0) (k := 0) hA]
 rw [List.drop_zero, List.take_of_length_le (by simp)]
 unfold nodO Nd.row Nd.push
 simp only [List.length_append, List.length_cons, List.length_nil, List.map_append, List.map_cons, List.map_nil]
 rfl
def A84 : Ann := fun r => match r with
 | 0 => { slots := [(0, 21), (1, 22)] }
 | 4 => { slots := [(10, 23), (11, 24)], plan := some (.one 1 (.one 2 (.one 3 (.one 4 (.one 5 (.one 7 (.one 8 (.br 0 6 (.one 6 (.one 9 (.one 10 (.one 11 (.one 12 (.one 13 (.one 14 (.done)))))))) (.one 9 (.br 0 10 (.one 10 (.one 11 (.one 12 (.one 13 (.one 14 (.done)))))) (.br 0 11 (.one 11 (.one 12 (.one 13 (.one 14 (.done))))) (.one 0 (.one 12 (.one 13 (.one 14 (.done))))))))))))))) ) }
 | _ => {}
set_option maxHeartbeats 16000000 in
set_option maxRecDepth 100000 in
theorem node84 (M : ME) (b : PS) (A' : List AObj) (L : Nat) (hL : A'.length + 1 = L) (e1 e3 w ew w1 ew1 : Nat) (F C' : AV) (f : List St) (rs : List Co) (ds : List Bool) (d : Nd) (h1 : b.o1 = .vec e1 [[.optr (.d L) d.e 5 0 0]]) (h3 : b.o3 = .vec e3 [[.optr (.d w) ew 5 0 0]])
  (hcaps : M.caps = [.optr (.s 3) e3 1 0 0, .optr (.s 1) e1 1 0 0]) (hfy : M.fy = 84) (hD : (M.ob :: (A' ++ nodO L d))[w]? = some (.vec ew [[F, .mp (.d w1) ew1, costsA rs, boolsA ds, C']])) (hD1 : (M.ob :: (A' ++ nodO L d))[w1]? = some (.map ew1 (mapS 0 f)))
  (hn : f.Nodup) (hb : ∀ s ∈ f, s.bd) (hrl : rs.length = f.length) (hdl : ds.length = f.length) (h : RMv) (hto : h.to < f.length) (hc : 0 ≤ h.c ∧ h.c ≤ 1000000) (hm : 0 ≤ h.m ∧ h.m ≤ 1000000) (hrs : ∀ a ∈ rs, (0 ≤ a.1 ∧ a.1 ≤ 10000000000) ∧ (0 ≤ a.2 ∧ a.2 ≤ 10000000000))
  (hks : 0 < h.ks.length ∧ h.ks.length ≤ 100000) (ok : d.Ok) (hml : d.ms.length ≤ 1000000) (hol : d.op.length ≤ 1000000) (hmono : MonoW ⟨h.c + (rs.getD h.to (0, 0)).1, h.m + (rs.getD h.to (0, 0)).2, (d.ms.length : Int), 0⟩ d.op) :
  YC M (toMv f h) { b with D := A' ++ nodO L d } fun S' => ∃ eM eO, S' = { b with D := A' ++ nodO L (tellN rs ds h d eM eO) } := by
 intro e20 R hR hRp
 rw [hfy, hcaps]
 obtain ⟨ks, to, c, m⟩ := h
 simp only [toMv] at hR hto hc hm hks hmono ⊢
 have hv : f.getD to st0 ∈ f := by rw [List.getD_eq_getElem?_getD, List.getElem?_eq_getElem hto]; exact List.getElem_mem hto
 have hix : idxA (f.getD to st0) f = to := by
  have h1 := idxA_get hv
  obtain ⟨q1, q2⟩ := List.getElem?_eq_some_iff.1 h1
  have h3 : f.getD to st0 = f[to] := by rw [List.getD_eq_getElem?_getD, List.getElem?_eq_getElem hto]; rfl
  exact (List.getElem_inj hn).1 (q2.trans h3)
 have hvb := hb _ hv
 have hf := fun {K : Option (Nat × AV) → Prop} (hK : K (some (to, .int .i64 (to : Int)))) => findT (K := K) hn hv (by rw [hix]; exact hK)
 generalize f.getD to st0 = v at hv hvb hf
 have hk1 : (boolsR ds)[0 + ((to : Nat) : Int).toNat]? = some [.bool (ds.getD to true)] := by
  rw [List.getD_eq_getElem?_getD, List.getElem?_eq_getElem (l := ds) (by omega)]
  exact mapR (f := fun b => [AV.bool b]) (by omega)
 have hrb := fun (h : to < rs.length) => hrs _ (List.getElem_mem h)
 have hk2 : (rowsCo rs)[0 + ((to : Nat) : Int).toNat]? = some (costR (rs.getD to (0, 0))) := by
  rw [List.getD_eq_getElem?_getD, List.getElem?_eq_getElem (l := rs) (by omega)]
  exact mapR (f := costR) (by omega)
 have hrb : (0 ≤ (rs.getD to (0, 0)).1 ∧ (rs.getD to (0, 0)).1 ≤ 10000000000) ∧ (0 ≤ (rs.getD to (0, 0)).2 ∧ (rs.getD to (0, 0)).2 ≤ 10000000000) := by
  rw [List.getD_eq_getElem?_getD, List.getElem?_eq_getElem (l := rs) (by omega)]
  exact hrb (by omega)
 unfold tellN
 simp only
 have hdn : 0 + ((to : Nat) : Int).toNat < ds.length := by omega
 have hrn : 0 + ((to : Nat) : Int).toNat < rs.length := by omega
 generalize hdv : ds.getD to true = dv at hk1
 generalize hrv : rs.getD to (0, 0) = rv at hk2 hrb hmono
 obtain ⟨r1, r2⟩ := rv
 have hP := plus59 (c, m) (r1, r2) (by simp only; omega) (by simp only; omega) (by simp only at hrb ⊢; omega) (by simp only at hrb ⊢; omega)
 simp only at hP hmono ⊢
 have hAL : (M.ob :: A').length = L := by simp only [List.length_cons]; omega
 have hx0 : (M.ob :: (A' ++ nodO L d))[L]? = some (.vec d.e [d.row L]) := app_get (A := M.ob :: A') (k := 0) hAL
 have hO0 : (M.ob :: (A' ++ nodO L d))[L + 3]? = some (.vec d.eO d.rO) := app_get (A := M.ob :: A') (k := 3) hAL
 refine ACalls.mono (K := Wq _) ?_ (fun r h' h => wq_ex h)
 simp only [PS.l]
 rw [h1, h3]
 cases dv with
 | true =>
  refine fn_of (okz [] [81] [44]) mixed (A := A84) 4 Try.func84 rfl ?_
  (repeat' (first | ((conv => whnf); first | refine optO hD ?_ | refine optM hD1 ?_ | refine ⟨⟨rfl, keySt hvb _, keysS hb 0⟩, hf ?_⟩ | refine optS hk1 ?_ | refine optS hk2 ?_ | refine optO hx0 ?_ | refine ⟨_, hP, ?_⟩ | exact rfl | exact ⟨rfl, rfl⟩ | refine go1 ?_ | (intro ep) | (refine ifB (fun hb => ?_) (fun hb => ?_) <;> (try simp only [qs] at hb) <;> (try simp (disch := omega) only [wrapI] at hb) <;> (try (exfalso; omega))) | fail)))
  all_goals (conv => whnf)
  all_goals exact wq_of ⟨_, ⟨0, 0, rfl⟩, rfl, rfl⟩
 | false =>
  simp only [Bool.false_eq_true, if_false]
  refine fn_of (okz [] [81] [44]) mixed (A := A84) 4 Try.func84 rfl ?_
  (repeat' (first | ((conv => whnf); first | refine optO hD ?_ | refine optM hD1 ?_ | refine ⟨⟨rfl, keySt hvb _, keysS hb 0⟩, hf ?_⟩ | refine optS hk1 ?_ | refine optS hk2 ?_ | refine optO hx0 ?_ | refine ⟨_, hP, ?_⟩ | exact rfl | exact ⟨rfl, rfl⟩ | refine go1 ?_ | (intro ep) | (refine ifB (fun hb => ?_) (fun hb => ?_) <;> (try simp only [qs] at hb) <;> (try simp (disch := omega) only [wrapI] at hb) <;> (try (exfalso; omega))) | fail)))
  all_goals (conv => whnf)
  refine ACalls.part (st1 := []) (dy := M.ob :: (A' ++ nodO L d)) 0 rfl rfl rfl (put81 (M.ob :: (A' ++ nodO L d)) L (L + 3) d.e d.eO d.off d.op.length _ _ d.due d.rO d.op ⟨c + r1, m + r2, (d.ms.length : Int), 0⟩ (by omega) hx0 hO0 ok.pure ok.le ok.rows rfl hmono hol
   (K := fun r h' => r = .tup [] ∧ ∃ e', h'.dy = M.ob :: (A' ++ nodO L (d.put ⟨c + r1, m + r2, (d.ms.length : Int), 0⟩ e'))) (fun e' st => ⟨rfl, e', put_dy (A := M.ob :: A') hAL d _ e'⟩)) ?_
  rintro r h1 ⟨rfl, e', hd⟩
  rw [hd]
  obtain ⟨d', hd'⟩ : ∃ d', d' = d.put ⟨c + r1, m + r2, (d.ms.length : Int), 0⟩ e' := ⟨_, rfl⟩
  rw [← hd']
  have hx1 : (M.ob :: (A' ++ nodO L d'))[L]? = some (.vec d.e [nodR (.oslc (.d (L + 1)) d.eM 4 0 d.ms.length false) (.oslc (.d (L + 2)) d.eF 4 0 d.fd.length false) (L + 3) e' 0 d'.op.length d.due]) := by rw [hd']; exact app_get (A := M.ob :: A') (k := 0) hAL
  have hM1 : (M.ob :: (A' ++ nodO L d'))[L + 1]? = some (.vec d.eM (rowsMv d.ms)) := by rw [hd']; exact app_get (A := M.ob :: A') (k := 1) hAL
  have hx2 : ∀ o, ((M.ob :: (A' ++ nodO L d')).set (L + 1) o)[L]? = some (.vec d.e [nodR (.oslc (.d (L + 1)) d.eM 4 0 d.ms.length false) (.oslc (.d (L + 2)) d.eF 4 0 d.fd.length false) (L + 3) e' 0 d'.op.length d.due]) := fun o => by rw [List.getElem?_set_ne (by omega)]; exact hx1
  (repeat' (first | ((conv => whnf); first | refine optO hx1 ?_ | refine optO (hx2 _) ?_ | refine optO hM1 ?_ | (refine cloneX ks hks.1 hks.2 (by exact rfl) hR hRp ?_; refine ⟨fun i o h => h, ?_⟩) | exact rfl | exact ⟨rfl, rfl⟩ | refine go1 ?_ | (intro ep) | (refine ifB (fun hb => ?_) (fun hb => ?_) <;> (try simp only [qs] at hb) <;> (try simp (disch := omega) only [wrapI] at hb) <;> (try (exfalso; omega))) | fail | refine And.intro ?_ ?_)))
  all_goals (conv => whnf)
  all_goals
   refine wq_of ⟨_, ⟨ep, e', rfl⟩, rfl, ?_⟩
   subst hd'
   exact push_dy (A := M.ob :: A') hAL (d.put ⟨c + r1, m + r2, (d.ms.length : Int), 0⟩ e') ⟨ks, to, c, m⟩ ep
end Go.Ab.V

namespace Go.Ab.V
def WL (x y : Wy) : Prop := x.c < y.c ∨ (x.c = y.c ∧ (x.m < y.m ∨ (x.m = y.m ∧ x.j < y.j)))
theorem wcmp_lt {x y : Wy} : wcmp x y < 0 ↔ WL x y := by
 unfold wcmp WL cmpC orI cmpI
 simp only
 by_cases a : x.c < y.c <;> by_cases b : y.c < x.c <;> by_cases c : x.m < y.m <;> by_cases d : y.m < x.m <;> by_cases e : x.j < y.j <;> by_cases f : y.j < x.j <;> simp [a, b, c, d, e, f] <;> omega
theorem WL.trans {x y z : Wy} (h1 : WL x y) (h2 : WL y z) : WL x z := by unfold WL at *; omega
theorem WL.irr {x : Wy} : ¬ WL x x := by unfold WL; omega
theorem WL.tot {x y : Wy} (h : x.j ≠ y.j) : WL x y ∨ WL y x := by unfold WL; omega
def Srt (l : List Wy) : Prop := l.Pairwise WL
theorem srt_mono {x : Wy} {l : List Wy} (h : Srt l) : MonoW x l := fun i j hi hj hc => by
 have := List.pairwise_iff_getElem.1 h i j (by omega) hj hi
 exact wcmp_lt.2 (this.trans (wcmp_lt.1 hc))
theorem insA_mem {α : Type} {i : Nat} {x w : α} {l : List α} : w ∈ insA i x l ↔ w = x ∨ w ∈ l := by
 unfold insA
 rw [List.mem_append, List.mem_cons]
 constructor
 ·rintro (h | h | h)
  ·exact .inr (List.mem_of_mem_take h)
  ·exact .inl h
  ·exact .inr (List.mem_of_mem_drop h)
 ·rintro (h | h)
  ·exact .inr (.inl h)
  ·rw [← List.take_append_drop i l, List.mem_append] at h
   rcases h with h | h
   ·exact .inl h
   ·exact .inr (.inr h)
theorem srt_ins {x : Wy} {l : List Wy} (h : Srt l) (hx : ∀ w ∈ l, w.j ≠ x.j) : Srt (insA (befW x l) x l) := by
 have hm := srt_mono (x := x) h
 unfold Srt insA
 rw [List.pairwise_append, List.pairwise_cons]
 have h0 := h
 unfold Srt at h0
 rw [← List.take_append_drop (befW x l) l, List.pairwise_append] at h0
 have lo : ∀ w ∈ l.take (befW x l), WL w x := fun w hw => by
  obtain ⟨k, hk, rfl⟩ := List.mem_iff_getElem.1 hw
  rw [List.length_take] at hk
  rw [List.getElem_take]
  refine Classical.byContradiction fun c => ?_
  have := befW_out x l k (by omega) (fun h => c (wcmp_lt.1 h))
  omega
 have hi : ∀ w ∈ l.drop (befW x l), WL x w := fun w hw => by
  obtain ⟨k, hk, rfl⟩ := List.mem_iff_getElem.1 hw
  rw [List.length_drop] at hk
  rw [List.getElem_drop]
  rcases WL.tot (hx _ (List.getElem_mem (by omega : befW x l + k < l.length))) with c | c
  ·have := befW_in x l (befW x l + k) (by omega) hm (wcmp_lt.2 c)
   omega
  ·exact c
 refine ⟨h0.1, ⟨hi, h0.2.1⟩, fun a ha b hb => ?_⟩
 rcases List.mem_cons.1 hb with rfl | hb
 ·exact lo a ha
 ·exact h0.2.2 a ha b hb
structure Opn (ls : List (List Co)) (p : Nat → Nat) (sk : Option Nat) (l : List Wy) : Prop where
 srt : Srt l
 mem : ∀ w, w ∈ l ↔ ∃ (j : Nat) (x : Co), sk ≠ some j ∧ hdA ls p j = some x ∧ w = ⟨x.1, x.2, (j : Int), (p j : Int)⟩
theorem bst_lt {ls : List (List Co)} {p : Nat → Nat} : ∀ {n j : Nat} {x : Co}, bst id ls p n = some (j, x) → ∀ i, i < n → i ≠ j → ∀ y, hdA ls p i = some y → cl x y = true ∨ (x = y ∧ j < i)
 | n + 1, j, x, h, i, hi, hne, y, hy => by
  unfold bst at h
  split at h
  ·rename_i hn
   by_cases e : i = n
   ·subst e; rw [hn] at hy; cases hy
   ·exact bst_lt h i (by omega) hne y hy
  ·rename_i u hu
   split at h
   ·rename_i hb
    cases h
    by_cases e : i = n
    ·omega
    ·rw [bst_none hb i (by omega)] at hy; cases hy
   ·rename_i z hz
    obtain ⟨b, w⟩ := z
    simp only [id] at h
    obtain ⟨hb, hw⟩ := bst_hd hz
    split at h
    ·rename_i hc
     cases h
     by_cases e : i = b
     ·subst e
      rw [hw] at hy; cases hy
      exact .inl hc
     ·rcases bst_lt hz i (by omega) e y hy with h1 | ⟨h1, _⟩
      ·left
       rw [cl_iff] at *
       omega
      ·subst h1; exact .inl hc
    ·rename_i hc
     cases h
     by_cases e : i = n
     ·subst e
      rw [hu] at hy; cases hy
      rcases cl_not hc with h1 | h1
      ·exact .inl h1
      ·exact .inr ⟨h1.symm, hb⟩
     ·exact bst_lt hz i (by omega) hne y hy
theorem hdA_lt {ls : List (List Co)} {p : Nat → Nat} {j : Nat} {x : Co} (h : hdA ls p j = some x) : j < ls.length := rem_lt (x := x) (p := p) ⟨p j, Nat.le_refl _, h⟩
theorem hdA_bump {ls : List (List Co)} {p : Nat → Nat} {i j : Nat} (h : i ≠ j) : hdA ls (bump p j) i = hdA ls p i := by unfold hdA bump; rw [if_neg h]
theorem opn_nil {ls : List (List Co)} {p : Nat → Nat} (h : Opn ls p none []) : bst id ls p ls.length = none := by
 cases hb : bst id ls p ls.length with
 | none => rfl
 | some jx =>
  obtain ⟨_, h2⟩ := bst_hd (j := jx.1) (x := jx.2) hb
  have := (h.mem ⟨jx.2.1, jx.2.2, (jx.1 : Int), (p jx.1 : Int)⟩).2 ⟨jx.1, jx.2, by simp, h2, rfl⟩
  simp at this
theorem opn_cons {ls : List (List Co)} {p : Nat → Nat} {w : Wy} {r : List Wy} (h : Opn ls p none (w :: r)) : ∃ (j : Nat) (x : Co), bst id ls p ls.length = some (j, x) ∧ w = ⟨x.1, x.2, (j : Int), (p j : Int)⟩ ∧ Opn ls (bump p j) (some j) r := by
 obtain ⟨j, x, _, hx, rfl⟩ := (h.mem w).1 (List.mem_cons_self ..)
 have hj := hdA_lt hx
 have hs := List.pairwise_cons.1 h.srt
 refine ⟨j, x, ?_, rfl, ⟨hs.2, fun w => ?_⟩⟩
 ·cases hb : bst id ls p ls.length with
  | none => rw [bst_none hb j hj] at hx; cases hx
  | some z =>
   obtain ⟨j', x'⟩ := z
   obtain ⟨h1, h2⟩ := bst_hd hb
   by_cases e : j' = j
   ·subst e; rw [hx] at h2; cases h2; rfl
   ·have hm := (h.mem ⟨x'.1, x'.2, (j' : Int), (p j' : Int)⟩).2 ⟨j', x', by simp, h2, rfl⟩
    rcases List.mem_cons.1 hm with hm | hm
    ·simp only [Wy.mk.injEq] at hm; omega
    ·have h3 := hs.1 _ hm
     have h4 := bst_lt hb j hj (fun e' => e e'.symm) x hx
     rw [cl_iff] at h4
     obtain ⟨x1, x2⟩ := x
     obtain ⟨y1, y2⟩ := x'
     unfold WL at h3
     simp only [Prod.mk.injEq] at h3 h4
     omega
 ·constructor
  ·intro hw
   obtain ⟨i, y, _, hy, rfl⟩ := (h.mem w).1 (List.mem_cons_of_mem _ hw)
   have hij : i ≠ j := by
    rintro rfl
    rw [hx] at hy
    cases hy
    exact WL.irr (hs.1 _ hw)
   exact ⟨i, y, fun e => hij (Option.some.inj e).symm, by rw [hdA_bump hij]; exact hy, by unfold bump; rw [if_neg hij]⟩
  ·rintro ⟨i, y, hsk, hy, rfl⟩
   have hij : i ≠ j := fun e => hsk (by rw [e])
   rw [hdA_bump hij] at hy
   unfold bump
   rw [if_neg hij]
   rcases List.mem_cons.1 ((h.mem _).2 ⟨i, y, by simp, hy, rfl⟩) with hm | hm
   ·simp only [Wy.mk.injEq] at hm; omega
   ·exact hm
theorem opn_put {ls : List (List Co)} {p : Nat → Nat} {j : Nat} {l : List Wy} (h : Opn ls p (some j) l) {x : Co} (hx : hdA ls p j = some x) : Opn ls p none (insA (befW ⟨x.1, x.2, (j : Int), (p j : Int)⟩ l) ⟨x.1, x.2, (j : Int), (p j : Int)⟩ l) := by
 refine ⟨srt_ins h.srt fun w hw => ?_, fun w => ?_⟩
 ·obtain ⟨i, y, hi, _, rfl⟩ := (h.mem w).1 hw
  intro e
  simp only at e
  exact hi (by rw [show j = i by omega])
 ·rw [insA_mem, h.mem]
  constructor
  ·rintro (rfl | ⟨i, y, _, hy, rfl⟩)
   ·exact ⟨j, x, by simp, hx, rfl⟩
   ·exact ⟨i, y, by simp, hy, rfl⟩
  ·rintro ⟨i, y, _, hy, rfl⟩
   by_cases e : i = j
   ·subst e; rw [hx] at hy; cases hy; exact .inl rfl
   ·exact .inr ⟨i, y, fun e' => e (Option.some.inj e').symm, hy, rfl⟩
theorem opn_end {ls : List (List Co)} {p : Nat → Nat} {j : Nat} {l : List Wy} (h : Opn ls p (some j) l) (hx : hdA ls p j = none) : Opn ls p none l := by
 refine ⟨h.srt, fun w => ?_⟩
 rw [h.mem]
 constructor
 ·rintro ⟨i, y, _, hy, rfl⟩; exact ⟨i, y, by simp, hy, rfl⟩
 ·rintro ⟨i, y, _, hy, rfl⟩
  refine ⟨i, y, ?_, hy, rfl⟩
  intro e
  cases e
  rw [hx] at hy; cases hy
theorem opn_more {ls : List (List Co)} {l : List Wy} (h : Opn ls (fun _ => 0) none l) {m : List Co} {x : Co} {r : List Co} (hm : m = x :: r) : Opn (ls ++ [m]) (fun _ => 0) none (insA (befW ⟨x.1, x.2, (ls.length : Int), 0⟩ l) ⟨x.1, x.2, (ls.length : Int), 0⟩ l) := by
 have hd1 : ∀ i, i < ls.length → hdA (ls ++ [m]) (fun _ => 0) i = hdA ls (fun _ => 0) i := fun i hi => by
  unfold hdA
  rw [List.getD_eq_getElem?_getD, List.getD_eq_getElem?_getD, List.getElem?_append_left hi]
 have hd2 : hdA (ls ++ [m]) (fun _ => 0) ls.length = some x := by
  unfold hdA
  rw [List.getD_eq_getElem?_getD, List.getElem?_append_right (Nat.le_refl _), hm]
  simp
 refine ⟨srt_ins h.srt fun w hw => ?_, fun w => ?_⟩
 ·obtain ⟨i, y, _, hy, rfl⟩ := (h.mem w).1 hw
  have := hdA_lt hy
  simp only
  omega
 ·rw [insA_mem, h.mem]
  constructor
  ·rintro (rfl | ⟨i, y, _, hy, rfl⟩)
   ·exact ⟨ls.length, x, by simp, hd2, rfl⟩
   ·exact ⟨i, y, by simp, by rw [hd1 i (hdA_lt hy)]; exact hy, rfl⟩
  ·rintro ⟨i, y, _, hy, rfl⟩
   have := hdA_lt hy
   simp only [List.length_append, List.length_cons, List.length_nil] at this
   by_cases e : i = ls.length
   ·subst e; rw [hd2] at hy; cases hy; exact .inl rfl
   ·exact .inr ⟨i, y, by simp, by rw [← hd1 i (by omega)]; exact hy, rfl⟩
end Go.Ab.V

namespace Go.Ab.V
def pkP (ls : List (List Co)) : Nat → (Nat → Nat) → (Nat → Nat)
 | 0, p => p
 | k + 1, p => match bst id ls p ls.length with
  | none => p
  | some jx => pkP ls k (bump p jx.1)
theorem pkW_stop {ls : List (List Co)} {p : Nat → Nat} (h : bst id ls p ls.length = none) : ∀ k, pkW ls k p = [] ∧ pkP ls k p = p
 | 0 => ⟨rfl, rfl⟩
 | k + 1 => by unfold pkW pkP; rw [h]; exact ⟨rfl, rfl⟩
theorem pkW_app {ls : List (List Co)} : ∀ {a b : Nat} {p : Nat → Nat}, pkW ls (a + b) p = pkW ls a p ++ pkW ls b (pkP ls a p) ∧ pkP ls (a + b) p = pkP ls b (pkP ls a p)
 | 0, b, p => by rw [Nat.zero_add]; exact ⟨rfl, rfl⟩
 | a + 1, b, p => by
  rw [show a + 1 + b = (a + b) + 1 by omega]
  cases hb : bst id ls p ls.length with
  | none =>
   obtain ⟨h1, h2⟩ := pkW_stop hb b
   simp only [pkW, pkP, hb, List.nil_append, h1, h2]
   exact ⟨trivial, trivial⟩
  | some jx =>
   obtain ⟨h1, h2⟩ := pkW_app (ls := ls) (a := a) (b := b) (p := bump p jx.1)
   simp only [pkW, pkP, hb, List.cons_append, h1, h2]
   exact ⟨trivial, trivial⟩
def remN (ls : List (List Co)) (p : Nat → Nat) : Nat → Nat
 | 0 => 0
 | n + 1 => remN ls p n + ((ls.getD n []).length - p n)
theorem remN_bump {ls : List (List Co)} {p : Nat → Nat} {j : Nat} (hj : p j < (ls.getD j []).length) : ∀ {n : Nat}, remN ls (bump p j) n + (if j < n then 1 else 0) = remN ls p n
 | 0 => rfl
 | n + 1 => by
  have ih := remN_bump hj (n := n)
  unfold remN
  have e : bump p j n = if n = j then p n + 1 else p n := rfl
  by_cases c : n = j
  ·subst c
   rw [if_neg (by omega)] at ih
   rw [if_pos (by omega), e, if_pos rfl]
   omega
  ·rw [e, if_neg c]
   by_cases d : j < n
   ·rw [if_pos d] at ih; rw [if_pos (by omega)]; omega
   ·rw [if_neg d] at ih; rw [if_neg (by omega)]; omega
theorem remN_zero {ls : List (List Co)} {p : Nat → Nat} : ∀ {n : Nat}, remN ls p n = 0 → ∀ j, j < n → hdA ls p j = none
 | n + 1, h, j, hj => by
  unfold remN at h
  by_cases c : j = n
  ·subst c
   unfold hdA
   exact List.getElem?_eq_none (by omega)
  ·exact remN_zero (n := n) (by omega) j (by omega)
theorem pkP_full {ls : List (List Co)} : ∀ {k : Nat} {p : Nat → Nat}, remN ls p ls.length ≤ k → bst id ls (pkP ls k p) ls.length = none
 | 0, p, h => by
  have h0 := remN_zero (by omega : remN ls p ls.length = 0)
  show bst id ls p ls.length = none
  cases hb : bst id ls p ls.length with
  | none => rfl
  | some jx =>
   obtain ⟨h1, h2⟩ := bst_hd (j := jx.1) (x := jx.2) hb
   rw [h0 _ h1] at h2; cases h2
 | k + 1, p, h => by
  unfold pkP
  cases hb : bst id ls p ls.length with
  | none => exact hb
  | some jx =>
   obtain ⟨h1, h2⟩ := bst_hd (j := jx.1) (x := jx.2) hb
   have h3 := remN_bump (ls := ls) (p := p) (j := jx.1) (List.getElem?_eq_some_iff.1 h2).1 (n := ls.length)
   rw [if_pos h1] at h3
   exact pkP_full (by omega)
theorem remN_sum (ls : List (List Co)) : remN ls (fun _ => 0) ls.length = (ls.map List.length).sum := by
 have key : ∀ n, n ≤ ls.length → remN ls (fun _ => 0) n = ((ls.take n).map List.length).sum := by
  intro n
  induction n with
  | zero => intro _; rfl
  | succ n ih =>
   intro h
   unfold remN
   rw [ih (by omega), List.take_succ_eq_append_getElem (by omega), List.map_append, List.sum_append, List.getD_eq_getElem?_getD, List.getElem?_eq_getElem (l := ls) (i := n) (by omega)]
   simp
 rw [key _ (Nat.le_refl _), List.take_length]
theorem pk_mrg (ls : List (List Co)) (m : Nat) : ∃ t, mrg ls = pkW ls m (fun _ => 0) ++ t ∧ (bst id ls (pkP ls m fun _ => 0) ls.length = none → t = []) := by
 have hs : (ls.map List.length).sum = remN ls (fun _ => 0) ls.length := (remN_sum ls).symm
 unfold mrg
 by_cases c : m ≤ (ls.map List.length).sum
 ·obtain ⟨k, hk⟩ : ∃ k, (ls.map List.length).sum = m + k := ⟨_, (Nat.add_sub_cancel' c).symm⟩
  rw [hk, pkW_app.1]
  exact ⟨_, rfl, fun h => (pkW_stop h k).1⟩
 ·obtain ⟨k, hk⟩ : ∃ k, m = (ls.map List.length).sum + k := ⟨m - (ls.map List.length).sum, by omega⟩
  refine ⟨[], ?_, fun _ => rfl⟩
  rw [List.append_nil, hk, pkW_app.1]
  rw [(pkW_stop (pkP_full (by omega)) k).1, List.append_nil]
structure NdR (T : Nat → List Wy) (ms : List RMv) (d : Nd) : Prop where
 ok : d.Ok
 mv : d.ms = lvOf T ms
 fd : d.fd = pkW (lsOf T ms) d.fd.length fun _ => 0
 len : d.op.length + (if d.due = true then 1 else 0) ≤ d.ms.length
 op : (d.due = false ∧ Opn (lsOf T ms) (pkP (lsOf T ms) d.fd.length fun _ => 0) none d.op) ∨
  (d.due = true ∧ ∃ (k j : Nat) (x : Co), d.fd.length = k + 1 ∧ bst id (lsOf T ms) (pkP (lsOf T ms) k fun _ => 0) (lsOf T ms).length = some (j, x) ∧ Opn (lsOf T ms) (pkP (lsOf T ms) (k + 1) fun _ => 0) (some j) d.op)
theorem pk_snoc {ls : List (List Co)} {k : Nat} {p : Nat → Nat} {j : Nat} {x : Co} (h : bst id ls (pkP ls k p) ls.length = some (j, x)) : pkW ls (k + 1) p = pkW ls k p ++ [⟨x.1, x.2, (j : Int), (pkP ls k p j : Int)⟩] ∧ pkP ls (k + 1) p = bump (pkP ls k p) j := by
 obtain ⟨h1, h2⟩ := pkW_app (ls := ls) (a := k) (b := 1) (p := p)
 rw [h1, h2]
 simp only [pkW, pkP, h]
 exact ⟨trivial, trivial⟩
theorem ndr_last {T : Nat → List Wy} {ms : List RMv} {d : Nd} {k j : Nat} {x : Co} (h : d.fd = pkW (lsOf T ms) d.fd.length fun _ => 0) (hk : d.fd.length = k + 1) (hb : bst id (lsOf T ms) (pkP (lsOf T ms) k fun _ => 0) (lsOf T ms).length = some (j, x)) :
  d.fd[k]? = some ⟨x.1, x.2, (j : Int), (pkP (lsOf T ms) k (fun _ => 0) j : Int)⟩ := by
 rw [hk, (pk_snoc hb).1] at h
 have hl : (pkW (lsOf T ms) k fun _ => 0).length = k := by
  have := congrArg List.length h
  rw [hk, List.length_append, List.length_singleton] at this
  omega
 rw [h, List.getElem?_append_right (by omega), hl, Nat.sub_self]
 rfl
theorem ndr_get {T : Nat → List Wy} {ms : List RMv} {d : Nd} (h : NdR T ms d) {r : Nat} (hr : r < d.fd.length) : (mrg (lsOf T ms))[r]? = d.fd[r]? := by
 obtain ⟨t, h1, _⟩ := pk_mrg (lsOf T ms) d.fd.length
 rw [← h.fd] at h1
 rw [h1, List.getElem?_append_left hr]
theorem ndr_end {T : Nat → List Wy} {ms : List RMv} {d : Nd} (h : NdR T ms d) (h1 : d.due = false) (h2 : d.op = []) {r : Nat} (hr : d.fd.length ≤ r) : (mrg (lsOf T ms))[r]? = none := by
 obtain ⟨t, e1, e2⟩ := pk_mrg (lsOf T ms) d.fd.length
 rcases h.op with ⟨_, ho⟩ | ⟨hd, _⟩
 ·rw [h2] at ho
  rw [e1, e2 (opn_nil ho), ← h.fd, List.append_nil]
  exact List.getElem?_eq_none hr
 ·rw [h1] at hd; cases hd
theorem lsOf_at {T : Nat → List Wy} {ms : List RMv} {j q : Nat} {h : RMv} (hj : (lvOf T ms)[j]? = some h) : ((lsOf T ms).getD j [])[q]? = (T h.to)[q]?.map fun w => (h.c + w.c, h.m + w.m) := by
 unfold lsOf
 rw [List.getD_eq_getElem?_getD, List.getElem?_map, hj]
 simp
theorem pkP_le (ls : List (List Co)) : ∀ (k : Nat) (p : Nat → Nat) (j : Nat), pkP ls k p j ≤ p j + k
 | 0, p, j => Nat.le_refl _
 | k + 1, p, j => by
  unfold pkP
  cases bst id ls p ls.length with
  | none => simp only; omega
  | some jx =>
   simp only
   have := pkP_le ls k (bump p jx.1) j
   have h : bump p jx.1 j ≤ p j + 1 := by unfold bump; split <;> omega
   omega
end Go.Ab.V

namespace Go.Ab.V
open Go.Proofs
theorem lvOf_snoc (T : Nat → List Wy) (ms : List RMv) (h : RMv) : lvOf T (ms ++ [h]) = lvOf T ms ++ (if T h.to = [] then [] else [h]) := by
 unfold lvOf
 rw [List.filter_append]
 congr 1
 by_cases c : T h.to = []
 ·simp [c]
 ·simp [c]
theorem lsOf_snoc (T : Nat → List Wy) (ms : List RMv) (h : RMv) : lsOf T (ms ++ [h]) = lsOf T ms ++ (if T h.to = [] then [] else [(T h.to).map fun w => (h.c + w.c, h.m + w.m)]) := by
 unfold lsOf
 rw [lvOf_snoc, List.map_append]
 congr 1
 split <;> rfl
structure NdI (T : Nat → List Wy) (ms : List RMv) (d : Nd) : Prop where
 ok : d.Ok
 mv : d.ms = lvOf T ms
 op : Opn (lsOf T ms) (fun _ => 0) none d.op
 len : d.op.length = d.ms.length
theorem ndi_tell {T : Nat → List Wy} {ms : List RMv} {d : Nd} {len : Nat} (hI : NdI T ms d) (h : RMv) (hto : h.to < len) (eM eO : Nat) : NdI T (ms ++ [h]) (tellN (restL T len) (deadL T len) h d eM eO) := by
 unfold tellN
 rw [deadL_at hto]
 simp only [restL_at hto]
 have hl : d.ms.length = (lsOf T ms).length := by rw [hI.mv]; simp [lsOf]
 cases e : T h.to with
 | nil =>
  rw [if_pos (by rfl)]
  refine ⟨hI.ok, ?_, ?_, hI.len⟩
  ·rw [lvOf_snoc, if_pos e, List.append_nil]; exact hI.mv
  ·rw [lsOf_snoc, if_pos e, List.append_nil]; exact hI.op
 | cons w r =>
  rw [if_neg (by simp)]
  refine ⟨⟨?_, pure_rowsW _, ?_⟩, ?_, ?_, ?_⟩
  ·simp only [List.drop_zero]
   rw [List.take_of_length_le (by simp)]
  ·simp
  ·rw [lvOf_snoc, if_neg (by rw [e]; simp), ← hI.mv]
  ·rw [lsOf_snoc, if_neg (by rw [e]; simp), hl]
   exact opn_more hI.op (m := (T h.to).map fun w => (h.c + w.c, h.m + w.m)) (x := (h.c + w.c, h.m + w.m)) (r := r.map fun w => (h.c + w.c, h.m + w.m)) (by rw [e]; rfl)
  ·simp only [insA_len (befW_le _ _), List.length_append, List.length_singleton, hI.len]
theorem tellN_keep (rs : List Co) (ds : List Bool) (h : RMv) (d : Nd) (eM eO : Nat) : (tellN rs ds h d eM eO).fd = d.fd ∧ (tellN rs ds h d eM eO).due = d.due ∧ (tellN rs ds h d eM eO).e = d.e ∧ (tellN rs ds h d eM eO).eF = d.eF := by
 unfold tellN
 split <;> exact ⟨rfl, rfl, rfl, rfl⟩
theorem node_ev (M : ME) (b : PS) (A' : List AObj) (L : Nat) (hL : A'.length + 1 = L) (e e1 e3 w ew w1 ew1 : Nat) (F C' : AV) (f : List St) (T : Nat → List Wy) (h1 : b.o1 = .vec e1 [[.optr (.d L) e 5 0 0]]) (h3 : b.o3 = .vec e3 [[.optr (.d w) ew 5 0 0]])
  (hcaps : M.caps = [.optr (.s 3) e3 1 0 0, .optr (.s 1) e1 1 0 0]) (hfy : M.fy = 84) (hw : w < L) (hw1 : w1 < L) (hD : (M.ob :: A')[w]? = some (.vec ew [[F, .mp (.d w1) ew1, costsA (restL T f.length), boolsA (deadL T f.length), C']])) (hD1 : (M.ob :: A')[w1]? = some (.map ew1 (mapS 0 f)))
  (hn : f.Nodup) (hb : ∀ s ∈ f, s.bd) (hrs : ∀ a ∈ restL T f.length, (0 ≤ a.1 ∧ a.1 ≤ 10000000000) ∧ (0 ≤ a.2 ∧ a.2 ≤ 10000000000)) :
  ∀ (ms pre : List RMv) (d : Nd), (∀ h ∈ ms, h.to < f.length ∧ (0 ≤ h.c ∧ h.c ≤ 1000000) ∧ (0 ≤ h.m ∧ h.m ≤ 1000000) ∧ 0 < h.ks.length ∧ h.ks.length ≤ 100000) → NdI T pre d → d.e = e → d.ms.length + ms.length ≤ 1000000 →
  RunP M (ms.map (toMv f)) { b with D := A' ++ nodO L d } fun S' => ∃ d', S' = { b with D := A' ++ nodO L d' } ∧ NdI T (pre ++ ms) d' ∧ d'.fd = d.fd ∧ d'.due = d.due ∧ d'.e = e ∧ d'.eF = d.eF
 | [], pre, d, _, hI, he, _ => ⟨d, rfl, by rw [List.append_nil]; exact hI, rfl, rfl, he, rfl⟩
 | h :: ms, pre, d, hm, hI, he, hl => by
  obtain ⟨m1, m2, m3, m4⟩ := hm h (List.mem_cons_self ..)
  simp only [List.length_cons] at hl
  have hAL : (M.ob :: A').length = L := by simp only [List.length_cons]; omega
  have hO := hI.len
  refine YC.mono (node84 M b A' L hL e1 e3 w ew w1 ew1 F C' f (restL T f.length) (deadL T f.length) d (by rw [he]; exact h1) h3 hcaps hfy
   (by rw [← List.cons_append, List.getElem?_append_left (by omega)]; exact hD) (by rw [← List.cons_append, List.getElem?_append_left (by omega)]; exact hD1) hn hb restL_len deadL_len h m1 m2 m3 hrs m4 hI.ok (by omega) (by omega) (srt_mono hI.op.srt)) ?_
  rintro s' ⟨eM, eO, rfl⟩
  obtain ⟨k1, k2, k3, k4⟩ := tellN_keep (restL T f.length) (deadL T f.length) h d eM eO
  have hI2 := ndi_tell hI h m1 eM eO
  have hml : (tellN (restL T f.length) (deadL T f.length) h d eM eO).ms.length ≤ d.ms.length + 1 := by
   unfold tellN; split <;> simp
  refine RunP.mono (node_ev M b A' L hL e e1 e3 w ew w1 ew1 F C' f T h1 h3 hcaps hfy hw hw1 hD hD1 hn hb hrs ms (pre ++ [h]) _ (fun h hh => hm h (List.mem_cons_of_mem _ hh)) hI2 (by rw [k3]; exact he) (by omega)) ?_
  rintro s ⟨d', rfl, g1, g2, g3, g4, g5⟩
  exact ⟨d', rfl, by rw [List.append_assoc] at g1; exact g1, by rw [g2, k1], by rw [g3, k2], g4, by rw [g5, k4]⟩
end Go.Ab.V

namespace Go.Ab.V
def keyR (i k : Nat) : List AV := [.int .i64 (i : Int), .int .i64 (k : Int)]
theorem keyR_inj {i k i' k' : Nat} (h : AV.agg (keyR i k) = AV.agg (keyR i' k')) : i = i' ∧ k = k' := by
 simp only [keyR, AV.agg.injEq, List.cons.injEq, AV.int.injEq, true_and, and_true] at h
 omega
theorem ti134 : ∃ d, C.ti 134 = some d ∧ d.kind = .struct [(0, 3), (1, 3)] ∧ d.size = 2 := ⟨_, rfl, rfl, rfl⟩
theorem keyK {i k : Nat} (h : i ≤ 1000000000 ∧ k ≤ 1000000000) (x : AV) : keyRow C.ti 134 (.agg (keyR i k), x) = true := by
 obtain ⟨d, h1, h2, h3⟩ := ti134
 obtain ⟨e, g1, g2, g3⟩ := ti3
 unfold keyRow
 simp only [Bool.and_eq_true]
 refine ⟨keyX_struct h1 h2 (by rw [h3]; rfl) fun f hf => ?_, rfl⟩
 simp only [List.mem_cons, List.not_mem_nil, or_false] at hf
 rcases hf with rfl | rfl
 ·refine ⟨e, g1, ?_⟩
  rw [g3]
  exact keyX_int g1 g2 (wf64 (by unfold i64B; omega))
 ·refine ⟨e, g1, ?_⟩
  rw [g3]
  exact keyX_int g1 g2 (wf64 (by unfold i64B; omega))
structure NK where
 i : Nat
 k : Nat
 d : Nd
def mapN (B : Nat) : Nat → List NK → List (AV × AV)
 | _, [] => []
 | j, x :: r => (.agg (keyR x.i x.k), .optr (.d (B + 2 + 4 * j)) x.d.e 5 0 0) :: mapN B (j + 1) r
theorem mapN_get {B : Nat} : ∀ {N : List NK} {j k : Nat}, (mapN B j N)[k]? = N[k]?.map fun x => (.agg (keyR x.i x.k), .optr (.d (B + 2 + 4 * (j + k))) x.d.e 5 0 0)
 | [], j, k => by simp [mapN]
 | x :: r, j, 0 => by simp [mapN]
 | x :: r, j, k + 1 => by
  simp only [mapN, List.getElem?_cons_succ]
  rw [mapN_get, show j + 1 + k = j + (k + 1) by omega]
theorem mapN_snoc {B : Nat} (x : NK) : ∀ (N : List NK) (j : Nat), mapN B j (N ++ [x]) = mapN B j N ++ [(.agg (keyR x.i x.k), .optr (.d (B + 2 + 4 * (j + N.length))) x.d.e 5 0 0)]
 | [], j => by simp [mapN]
 | a :: r, j => by
  simp only [List.cons_append, mapN, mapN_snoc x r (j + 1), List.length_cons]
  rw [show j + 1 + r.length = j + (r.length + 1) by omega]
def KeyBd (N : List NK) : Prop := ∀ x ∈ N, x.i ≤ 1000000000 ∧ x.k ≤ 1000000000
theorem keysN {B : Nat} : ∀ {N : List NK} {j : Nat}, KeyBd N → (mapN B j N).all (keyRow C.ti 134) = true
 | [], j, _ => rfl
 | x :: r, j, h => by
  simp only [mapN, List.all_cons, Bool.and_eq_true]
  exact ⟨keyK (h x (List.mem_cons_self ..)) _, keysN fun y hy => h y (List.mem_cons_of_mem _ hy)⟩
def KeyU (N : List NK) : Prop := ∀ (a b : Nat) (x y : NK), N[a]? = some x → N[b]? = some y → x.i = y.i → x.k = y.k → a = b
theorem findK1 {B : Nat} {N : List NK} (hu : KeyU N) {j : Nat} {x : NK} (hj : N[j]? = some x) {K : Option (Nat × AV) → Prop} (hK : K (some (j, .optr (.d (B + 2 + 4 * j)) x.d.e 5 0 0))) : findA (keyR x.i x.k) (mapN B 0 N) K := by
 right
 refine ⟨j, .optr (.d (B + 2 + 4 * j)) x.d.e 5 0 0, by rw [mapN_get, hj, Nat.zero_add]; rfl, fun a p ha hp => ?_, hK⟩
 rw [mapN_get, Option.map_eq_some_iff] at hp
 obtain ⟨y, hy, rfl⟩ := hp
 intro e
 obtain ⟨e1, e2⟩ := keyR_inj e
 exact ha (hu a j y x hy hj e1 e2)
theorem findK0 {B : Nat} {N : List NK} {i k : Nat} (h : ∀ x ∈ N, ¬ (x.i = i ∧ x.k = k)) {K : Option (Nat × AV) → Prop} (hK : K none) : findA (keyR i k) (mapN B 0 N) K := by
 left
 refine ⟨fun p hp => ?_, hK⟩
 obtain ⟨a, ha⟩ := List.mem_iff_getElem?.1 hp
 rw [mapN_get, Option.map_eq_some_iff] at ha
 obtain ⟨y, hy, rfl⟩ := ha
 intro e
 exact h y (List.mem_of_getElem? hy) (keyR_inj e)
def nodesO (B : Nat) : Nat → List NK → List AObj
 | _, [] => []
 | j, x :: r => nodO (B + 2 + 4 * j) x.d ++ nodesO B (j + 1) r
theorem nodesO_len {B : Nat} : ∀ {N : List NK} {j : Nat}, (nodesO B j N).length = 4 * N.length
 | [], j => rfl
 | x :: r, j => by simp only [nodesO, nodO, List.length_append, List.length_cons, List.length_nil, nodesO_len (N := r)]; omega
theorem nodesO_at {B : Nat} : ∀ {N : List NK} {j a q : Nat} {x : NK}, N[a]? = some x → q < 4 → (nodesO B j N)[4 * a + q]? = (nodO (B + 2 + 4 * (j + a)) x.d)[q]?
 | y :: r, j, 0, q, x, h, hq => by
  obtain rfl := Option.some.inj h
  simp only [nodesO, Nat.mul_zero, Nat.zero_add, Nat.add_zero]
  rw [List.getElem?_append_left (by simpa [nodO] using hq)]
 | y :: r, j, a + 1, q, x, h, hq => by
  simp only [nodesO]
  rw [List.getElem?_append_right (by simp [nodO]; omega)]
  have := nodesO_at (B := B) (N := r) (j := j + 1) (a := a) (q := q) (x := x) (by simpa using h) hq
  rw [show j + 1 + a = j + (a + 1) by omega] at this
  rw [← this]
  congr 1
  simp only [nodO, List.length_cons, List.length_nil]
  omega
theorem nodesO_snoc {B : Nat} (x : NK) : ∀ (N : List NK) (j : Nat), nodesO B j (N ++ [x]) = nodesO B j N ++ nodO (B + 2 + 4 * (j + N.length)) x.d
 | [], j => by simp [nodesO]
 | a :: r, j => by
  simp only [List.cons_append, nodesO, nodesO_snoc x r (j + 1), List.length_cons, List.append_assoc]
  rw [show j + 1 + r.length = j + (r.length + 1) by omega]
theorem nodesO_set {B : Nat} : ∀ {N : List NK} {j a q : Nat} {x : NK} {o : AObj} {d' : Nd}, N[a]? = some x → q < 4 → (nodO (B + 2 + 4 * (j + a)) x.d).set q o = nodO (B + 2 + 4 * (j + a)) d' → (nodesO B j N).set (4 * a + q) o = nodesO B j (N.set a ⟨x.i, x.k, d'⟩)
 | y :: r, j, 0, q, x, o, d', h, hq, hs => by
  obtain rfl := Option.some.inj h
  simp only [nodesO, Nat.mul_zero, Nat.zero_add, List.set_cons_zero] at hs ⊢
  rw [List.set_append_left _ _ (by simpa [nodO] using hq)]
  rw [show j + 0 = j from rfl] at hs
  rw [hs]
 | y :: r, j, a + 1, q, x, o, d', h, hq, hs => by
  simp only [nodesO, List.set_cons_succ]
  rw [List.set_append_right _ _ (by simp [nodO]; omega)]
  have := nodesO_set (B := B) (N := r) (j := j + 1) (a := a) (q := q) (x := x) (o := o) (d' := d') (by simpa using h) hq (by rw [show j + 1 + a = j + (a + 1) by omega]; exact hs)
  rw [← this]
  congr 2
  simp only [nodO, List.length_cons, List.length_nil]
  omega
def lisD (D0 : List AObj) (es em el : Nat) (N : List NK) : List AObj := D0 ++ (.map em (mapN D0.length 0 N) :: .vec el [[.optr (.d 0) es 8 0 0, .mp (.d D0.length) em]] :: nodesO D0.length 0 N)
theorem lis_len {D0 : List AObj} {es em el : Nat} {N : List NK} : (lisD D0 es em el N).length = D0.length + 2 + 4 * N.length := by
 unfold lisD
 rw [List.length_append, List.length_cons, List.length_cons, nodesO_len]
 omega
theorem lis_base {D0 : List AObj} {es em el : Nat} {N : List NK} {k : Nat} (h : k < D0.length) : (lisD D0 es em el N)[k]? = D0[k]? := List.getElem?_append_left h
theorem lis_map {D0 : List AObj} {es em el : Nat} {N : List NK} : (lisD D0 es em el N)[D0.length]? = some (.map em (mapN D0.length 0 N)) := by
 unfold lisD
 rw [List.getElem?_append_right (Nat.le_refl _), Nat.sub_self]
 rfl
theorem lis_el {D0 : List AObj} {es em el : Nat} {N : List NK} : (lisD D0 es em el N)[D0.length + 1]? = some (.vec el [[.optr (.d 0) es 8 0 0, .mp (.d D0.length) em]]) := by
 unfold lisD
 rw [List.getElem?_append_right (by omega), show D0.length + 1 - D0.length = 1 by omega]
 rfl
theorem lis_node {D0 : List AObj} {es em el : Nat} {N : List NK} {a q : Nat} {x : NK} (h : N[a]? = some x) (hq : q < 4) : (lisD D0 es em el N)[D0.length + 2 + 4 * a + q]? = (nodO (D0.length + 2 + 4 * a) x.d)[q]? := by
 unfold lisD
 rw [List.getElem?_append_right (by omega), show D0.length + 2 + 4 * a + q - D0.length = 4 * a + q + 1 + 1 by omega]
 simp only [List.getElem?_cons_succ]
 have := nodesO_at (B := D0.length) (j := 0) h hq
 rw [Nat.zero_add] at this
 exact this
theorem mapN_set {B : Nat} : ∀ {N : List NK} {j a : Nat} {x : NK} {d' : Nd}, N[a]? = some x → d'.e = x.d.e → mapN B j (N.set a ⟨x.i, x.k, d'⟩) = mapN B j N
 | y :: r, j, 0, x, d', h, he => by
  obtain rfl := Option.some.inj h
  simp only [List.set_cons_zero, mapN, he]
 | y :: r, j, a + 1, x, d', h, he => by
  simp only [List.set_cons_succ, mapN]
  rw [mapN_set (by simpa using h) he]
theorem lis_set {D0 : List AObj} {es em el : Nat} {N : List NK} {a q : Nat} {x : NK} {o : AObj} {d' : Nd} (h : N[a]? = some x) (hq : q < 4) (he : d'.e = x.d.e) (hs : (nodO (D0.length + 2 + 4 * a) x.d).set q o = nodO (D0.length + 2 + 4 * a) d') :
  (lisD D0 es em el N).set (D0.length + 2 + 4 * a + q) o = lisD D0 es em el (N.set a ⟨x.i, x.k, d'⟩) := by
 unfold lisD
 rw [List.set_append_right _ _ (by omega), show D0.length + 2 + 4 * a + q - D0.length = 4 * a + q + 1 + 1 by omega]
 simp only [List.set_cons_succ]
 rw [nodesO_set (B := D0.length) (j := 0) h hq (by rw [Nat.zero_add]; exact hs), mapN_set h he]
theorem lis_more {D0 : List AObj} {es em el : Nat} {N : List NK} (x : NK) : lisD D0 es em el (N ++ [x]) = (D0 ++ (.map em (mapN D0.length 0 N ++ [(.agg (keyR x.i x.k), .optr (.d (D0.length + 2 + 4 * N.length)) x.d.e 5 0 0)]) :: .vec el [[.optr (.d 0) es 8 0 0, .mp (.d D0.length) em]] :: nodesO D0.length 0 N)) ++ nodO (D0.length + 2 + 4 * N.length) x.d := by
 unfold lisD
 rw [mapN_snoc, nodesO_snoc, Nat.zero_add]
 simp only [List.append_assoc, List.cons_append]
end Go.Ab.V
