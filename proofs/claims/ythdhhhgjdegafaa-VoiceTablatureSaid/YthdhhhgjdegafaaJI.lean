/-
  What is proved here serves the law's text: each part says its own claim and its conditions. No condition is left open.
-/
import Derived.Test.YthdhhhgjdegafaaJG
import Derived.Test.YthdhhhgjdegafaaJH
set_option linter.unusedSimpArgs false
set_option linter.unusedVariables false

namespace Go.Ab
theorem tr_mvGA {fr : List AV} {K : List AV → Heap → Prop} {st dy : List AObj} (n ep : Nat) {o : AObj} (hn : st[n]? = some o) (he : o.ep? = some ep) (q0 : eqsG n ep (fr.flatMap celV)) (q1 : allG n ep (st.set n .hole)) (q2 : allG n ep dy) (q3 : eqsG n ep (celO o))
  (hc : ∀ ep2, TR (fr.map (mapV (mcG n dy.length ep2))) ⟨(st.set n .hole).map (AObj.mapc (mcG n dy.length ep2)), (dy ++ [o.reEp ep2]).map (AObj.mapc (mcG n dy.length ep2))⟩ K) : TR fr ⟨st, dy⟩ K := by
 intro σ w vs hf s
 obtain ⟨ep2, σ1, m, hv⟩ := s.mvG (n := n) (ep := ep) hf (o := o) hn he q0 q1 q2 q3
 obtain ⟨σ2, fr2, h2, k2, m2, r2⟩ := hc ep2 σ1 w vs hv m.sim
 exact ⟨σ2, fr2, h2, k2, m.trans m2, r2⟩
theorem allG_set {n ep k : Nat} {D : List AObj} {o : AObj} (h : ∀ o ∈ D, noO o) (ho : eqsG n ep (celO o)) : allG n ep (D.set k o) := allG_of fun b hb => by
 rcases List.mem_or_eq_of_mem_set hb with h1 | h1
 ·exact noO_eqs (h b h1)
 ·rw [h1]; exact ho
theorem mapc_set {n len ep2 k : Nat} {D : List AObj} {o : AObj} (h : ∀ o ∈ D, noO o) : (D.set k o).map (AObj.mapc (mcG n len ep2)) = D.set k (o.mapc (mcG n len ep2)) := by
 rw [List.map_set, noO_maps h]
theorem eqsG_mapsnoc {n ep e : Nat} {es : List (AV × AV)} {k v : AV} (h : noO (.map e es)) (hk : noSt k = true) (hv : okG n ep v) : eqsG n ep (celO (.map e (es ++ [(k, v)]))) := eqsG_of fun a ha => by
 simp only [celO, List.flatMap_append, List.mem_append, List.flatMap_cons, List.flatMap_nil, List.append_nil, List.mem_cons, List.not_mem_nil, or_false] at ha
 rcases ha with ha | rfl | rfl
 ·exact okG_no (h a ha)
 ·exact okG_no hk
 ·exact hv
theorem mapc_mapsnoc {n len ep2 e : Nat} {es : List (AV × AV)} {k v : AV} (h : noO (.map e es)) (hk : noSt k = true) : AObj.mapc (mcG n len ep2) (.map e (es ++ [(k, v)])) = .map e (es ++ [(k, mcG n len ep2 v)]) := by
 have := noO_map (n := n) (len := len) (ep2 := ep2) h
 simp only [AObj.mapc, AObj.map.injEq, true_and] at this ⊢
 rw [List.map_append, this]
 simp only [List.map_cons, List.map_nil, mcG_no hk]
end Go.Ab
