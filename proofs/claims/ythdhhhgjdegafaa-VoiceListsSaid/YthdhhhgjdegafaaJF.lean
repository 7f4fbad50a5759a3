/-
  What is proved here serves the law's text: each part says its own claim and its conditions. No condition is left open.
-/
import Derived.Shelf.Spec.SlicesInsertGrow
import Derived.Test.YthdhhhgjdegafaaKN
import Derived.Test.YthdhhhgjdegafaaJB
import Derived.Test.YthdhhhgjdegafaaJC
import Derived.Test.YthdhhhgjdegafaaJA
import Derived.Test.YthdhhhgjdegafaaJE
set_option linter.unusedSimpArgs false
set_option linter.unusedVariables false

namespace Go.Proofs
open Go.Shelf Go.RowKit Go.Lib
set_option maxHeartbeats 8000000 in
set_option maxRecDepth 100000 in
theorem ins_end (base : Option Addr) (n c vc : Nat) (va : Addr) (w W1 : World) (r : Value) (hc63 : n ≤ 4611686018427387904) (hnc : n ≤ c) (hnil : base = none → n = 0 ∧ c = 0)
  (hap : (Builtin.append_ #[142, 142] 142 #[.slice base n c, .slice (some va) 1 vc]).run Try.prog w = .ok r W1) :
  Calls Try.prog 92 #[.slice base n c, .int .i64 n, .slice (some va) 1 vc] w fun e w' => e = .returned r ∧ w' = W1 := by
 have mixed : Try.prog.follows .mixedOrders = true := by kernel_rfl
 go_enter Try.func92, Try.ntmps92
 cases base with
 | none =>
  obtain ⟨h0, h1⟩ := hnil rfl
  subst h0 h1
  go_wp2_with (at_builtin; refine Lib.wpList_append_run _ rfl _ _ _ _ rfl _ _ rfl rfl _ _ hap ?_)
  go_ret
  exact ⟨rfl, rfl⟩
 | some a =>
  obtain ⟨ab, ao, asp⟩ := a
  go_wp2_with (at_builtin; refine Lib.wpList_append_run _ rfl _ _ _ _ rfl _ _ rfl rfl _ _ hap ?_)
  all_goals (go_ret; exact ⟨rfl, rfl⟩)
set_option maxHeartbeats 8000000 in
set_option maxRecDepth 100000 in
theorem ins_shift (b o n c i vb vo vc : Nat) (w W1 W2 : World) (hi : i < n) (hroom : n + 1 ≤ c) (hc63 : n ≤ 4611686018427387904)
  (r1 r2 : Value) (hcp1 : ∀ ty dc sc, (Builtin.copy_ #[142, 142] ty #[.slice (some ⟨b, o + (i + 1) * 4, none⟩) (n - i) dc, .slice (some ⟨b, o + i * 4, none⟩) (n + 1 - i) sc]).run Try.prog w.drew = .ok r1 W1)
  (hcp2 : ∀ ty dc, (Builtin.copy_ #[142, 142] ty #[.slice (some ⟨b, o + i * 4, none⟩) (n + 1 - i) dc, .slice (some ⟨vb, vo, none⟩) 1 vc]).run Try.prog W1 = .ok r2 W2)
  (hov : ∀ lb cb, (callFunc 98 #[.slice (some ⟨vb, vo, none⟩) 1 vc, .slice (some ⟨b, o + (i + 1) * 4, none⟩) lb cb]).run Try.prog w = .ok (.value (.bool false)) w) :
  Calls Try.prog 92 #[.slice (some ⟨b, o, none⟩) n c, .int .i64 i, .slice (some ⟨vb, vo, none⟩) 1 vc] w fun e w' => e = .returned (.slice (some ⟨b, o, none⟩) (n + 1) c) ∧ w' = W2 := by
 have hz2 : ¬ ((i : Int) = (n : Int)) := by omega
 have hw1 : IntKind.i64.wrap ((i : Int) + 1) = (i : Int) + 1 := by rw [IntKind.wrap_i64]; omega
 have hw2 : IntKind.i64.wrap ((n : Int) + 1) = (n : Int) + 1 := by rw [IntKind.wrap_i64]; omega
 have hb1 : (0 : Int) ≤ (i : Int) + 1 := by omega
 have hin : i ≤ n := by omega
 have htn : ((i : Int) + 1).toNat = i + 1 := by omega
 have htn2 : ((n : Int) + 1).toNat = n + 1 := by omega
 have hb2 : ¬ (c = i + 1) := by omega
 have hb3 : (i : Int) ≤ (n : Int) + 1 := by omega
 have hb4 : ¬ (c = i) := by omega
 have hb5 : ¬ ((c : Int) < (n : Int) + 1) := by omega
 have mixed : Try.prog.follows .mixedOrders = true := by kernel_rfl
 go_enter Try.func92, Try.ntmps92
 go_wp2_with (simp only [hov])
 go_region_law_o (refine step_copy_runI rfl _ _ 142 142 rfl _ _ (by simp [Act.eval, Act.put]) (by simp [Act.eval, Act.put]) (hcp1 _ _ _) ?_)
 go_wp2_with (at_builtin; refine wpList_copy_runI _ rfl _ _ 142 142 rfl _ _ rfl rfl (hcp2 _ _) ?_)
 go_ret
 exact ⟨rfl, rfl⟩
set_option maxHeartbeats 8000000 in
set_option maxRecDepth 100000 in
theorem ins_grow (b o n c i vb vo vc g G : Nat) (w W0 W1 W2 : World) (hi : i < n) (hnc : n ≤ c) (hroom : c < n + 1) (hc63 : n ≤ 4611686018427387904) (hG : n + 1 ≤ G)
  (hap : ∀ ty, (Builtin.append_ #[142, 3] ty #[.slice (some ⟨b, o, none⟩) i c, .int .i64 ((n : Int) + 1 - (i : Int))]).run Try.prog w = .ok (.slice (some ⟨g, 0, none⟩) (n + 1) G) W0)
  (r1 r2 : Value) (hcp1 : ∀ ty dc, (Builtin.copy_ #[142, 142] ty #[.slice (some ⟨g, i * 4, none⟩) (n + 1 - i) dc, .slice (some ⟨vb, vo, none⟩) 1 vc]).run Try.prog W0 = .ok r1 W1)
  (hcp2 : ∀ ty dc sc, (Builtin.copy_ #[142, 142] ty #[.slice (some ⟨g, (i + 1) * 4, none⟩) (n - i) dc, .slice (some ⟨b, o + i * 4, none⟩) (n - i) sc]).run Try.prog W1.drew = .ok r2 W2) :
  Calls Try.prog 92 #[.slice (some ⟨b, o, none⟩) n c, .int .i64 i, .slice (some ⟨vb, vo, none⟩) 1 vc] w fun e w' => e = .returned (.slice (some ⟨g, 0, none⟩) (n + 1) G) ∧ w' = W2 := by
 have hz2 : ¬ ((i : Int) = (n : Int)) := by omega
 have hz3 : (c : Int) < (n : Int) + 1 := by omega
 have hw1 : IntKind.i64.wrap ((i : Int) + 1) = (i : Int) + 1 := by rw [IntKind.wrap_i64]; omega
 have hw2 : IntKind.i64.wrap ((n : Int) + 1) = (n : Int) + 1 := by rw [IntKind.wrap_i64]; omega
 have hw3 : IntKind.i64.wrap ((n : Int) + 1 - (i : Int)) = (n : Int) + 1 - (i : Int) := by rw [IntKind.wrap_i64]; omega
 have hGi : ¬ (G = i) := by omega
 have hGim : ¬ (G = i + 1) := by omega
 have hci : ¬ (c = i) := by omega
 have hb1 : (0 : Int) ≤ (i : Int) + 1 := by omega
 have hin : i ≤ n := by omega
 have htn : ((i : Int) + 1).toNat = i + 1 := by omega
 have hb3 : (i : Int) ≤ (n : Int) := by omega
 have hb4 : (i : Int) ≤ (n : Int) + 1 := by omega
 have mixed : Try.prog.follows .mixedOrders = true := by kernel_rfl
 go_enter Try.func92, Try.ntmps92
 go_wp2_with (first
  | (at_builtin; refine Lib.wpList_append_run _ rfl _ _ _ _ rfl _ _ rfl rfl _ _ (hap _) ?_)
  | (at_builtin; refine wpList_copy_runI _ rfl _ _ 142 142 rfl _ _ rfl rfl (hcp1 _ _) ?_))
 go_region_law_o (refine step_copy_runI rfl _ _ 142 142 rfl (.slice (some ⟨g, (i + 1) * 4, none⟩) (n - i) (G - (i + 1))) (.slice (some ⟨b, o + i * 4, none⟩) (n - i) (c - i)) (by simp [Act.eval, Act.put]) (by simp [Act.eval, Act.put]) (hcp2 _ _ _) ?_)
 go_wp2
 go_ret
 exact ⟨rfl, rfl⟩
end Go.Proofs

namespace Go.Ab.V
open Go.Proofs
def insA {α : Type} (i : Nat) (x : α) (l : List α) : List α := l.take i ++ x :: l.drop i
theorem insA_len {α : Type} {i : Nat} {x : α} {l : List α} (h : i ≤ l.length) : (insA i x l).length = l.length + 1 := by
 unfold insA
 rw [List.length_append, List.length_cons, List.length_take, List.length_drop]
 omega
theorem insA_get {α : Type} {i : Nat} {x : α} {l : List α} (h : i ≤ l.length) {q : Nat} {y : α} (hq : (insA i x l)[q]? = some y) : (q < i ∧ l[q]? = some y) ∨ (q = i ∧ y = x) ∨ (i < q ∧ l[q - 1]? = some y) := by
 unfold insA at hq
 have hl : (l.take i).length = i := by rw [List.length_take]; omega
 rw [List.getElem?_append, hl] at hq
 split at hq
 ·rename_i c
  rw [List.getElem?_take, if_pos c] at hq
  exact .inl ⟨c, hq⟩
 ·rename_i c
  by_cases e : q = i
  ·rw [e, Nat.sub_self] at hq
   simp at hq
   exact .inr (.inl ⟨e, hq.symm⟩)
  ·rw [show q - i = (q - i - 1) + 1 by omega, List.getElem?_cons_succ, List.getElem?_drop, show i + (q - i - 1) = q - 1 by omega] at hq
   exact .inr (.inr ⟨by omega, hq⟩)
theorem hd136 : ∃ d, C.ti 136 = some d ∧ d.size = 4 ∧ d.bytes = 32 := ⟨_, rfl, rfl, rfl⟩
theorem und142 : C.P.underlying 142 = some (.slice 136) := by kernel_rfl
theorem ov98 (w : World) (b o vb vo vc lb cb : Nat) (hne : vb ≠ b) {TA TB : TypeId} {ca cb' : Array Value} (ha : w.heap[vb]? = some (.cells ca TA (0, 0))) (hb : w.heap[b]? = some (.cells cb' TB (0, 0))) (hs : cb'.size ≠ 0) :
  (callFunc 98 #[.slice (some ⟨vb, vo, none⟩) 1 vc, .slice (some ⟨b, o, none⟩) lb cb]).run Try.prog w = .ok (.value (.bool false)) w := by
 have hz : ∀ w, (Go.sizeOf 136).run Try.prog w = .ok 4 w := fun w => by
  obtain ⟨d, h1, h2, _⟩ := hd136
  have := (ok.tok 136 d h1).run_sizeOf (w := w)
  rw [h2] at this
  exact this
 have h := Go.Lib.run_overlaps_apart (P := Try.prog) w 142 4 136 und142 4 hz ⟨vb, vo, none⟩ ⟨b, o, none⟩ 1 vc lb cb hne TA TB ca.size cb'.size (by simp [World.shape?, ha]) (by simp [World.shape?, hb]) hs (by simp [World.frozen?, ha]) (by simp [World.frozen?, ha])
 rw [run_callFunc_extern Try.func98 (by kernel_rfl) (by kernel_rfl) (by kernel_rfl) (e := Extern.SlicesOverlaps.overlaps #[142, 142] #[4]) (by kernel_rfl), h]
 rfl
theorem ins_cell {σ : Sg} {i len : Nat} {x : List AV} {R : List (List AV)} {olds xv : List Value} (hR : R.length = len) (hi : i ≤ len) (hrow : ∀ (q : Nat) (row : List AV), R[q]? = some row → row.length = 4) (hx : x.length = 4)
  (hO : CRels σ R.flatten olds) (hX : CRels σ ([x] : List (List AV)).flatten xv) (hol : olds.length = len * 4) (hxl : xv.length = 1 * 4) {cells : Array Value} {o : Nat}
  (h1 : ∀ k, k < i * 4 → cells[o + k]? = olds[k]?) (h2 : ∀ k, k < 4 → cells[o + i * 4 + k]? = xv[k]?) (h3 : ∀ k, k < (len - i) * 4 → cells[o + (i + 1) * 4 + k]? = olds[i * 4 + k]?) :
  ∀ (q j : Nat) (c : AV), cellAt (insA i x R) q j = some c → ∃ v, cells[o + q * 4 + j]? = some v ∧ v.oneCell' = true ∧ VRel σ c v := by
 intro q j c hc
 obtain ⟨row, hq, hj⟩ := cellAt_get hc
 have hrx : ∀ (q : Nat) (row : List AV), ([x] : List (List AV))[q]? = some row → row.length = 4 := fun q row h => by
  cases q with
  | zero => simp at h; subst h; exact hx
  | succ q => simp at h
 rcases insA_get (by omega) hq with ⟨c1, c2⟩ | ⟨c1, c2⟩ | ⟨c1, c2⟩
 ·have hjl : j < 4 := by have := hrow q row c2; have := (List.getElem?_eq_some_iff.1 hj).1; omega
  obtain ⟨v, f1, f2, f3⟩ := rows_in (by decide) hrow hO q j c (by simp [cellAt, c2, hj])
  exact ⟨v, by rw [Nat.add_assoc, h1 _ (by omega)]; exact f1, f2, f3⟩
 ·subst c1 c2
  have hjl : j < 4 := by have := (List.getElem?_eq_some_iff.1 hj).1; omega
  obtain ⟨v, f1, f2, f3⟩ := rows_in (by decide) hrx hX 0 j c (by simp [cellAt, hj])
  exact ⟨v, by rw [h2 _ hjl]; simpa using f1, f2, f3⟩
 ·have hjl : j < 4 := by have := hrow _ row c2; have := (List.getElem?_eq_some_iff.1 hj).1; omega
  have hql := (List.getElem?_eq_some_iff.1 c2).1
  obtain ⟨v, f1, f2, f3⟩ := rows_in (by decide) hrow hO (q - 1) j c (by simp [cellAt, c2, hj])
  refine ⟨v, ?_, f2, f3⟩
  have := h3 ((q - 1 - i) * 4 + j) (by omega)
  rw [show o + q * 4 + j = o + (i + 1) * 4 + ((q - 1 - i) * 4 + j) by omega, this, ← f1]
  congr 1
  omega
theorem cell_same {w w' : World} {b : Nat} (h : w'.heap[b]? = w.heap[b]?) (k : Nat) : w'.cell? ⟨b, k, none⟩ = w.cell? ⟨b, k, none⟩ := by simp [World.cell?, h]
set_option maxHeartbeats 8000000 in
set_option maxRecDepth 100000 in
theorem insert92 {id idx : Id} {ep epx off len i : Nat} {rows : List (List AV)} {x : List AV} (hx : x.length = 4) (hne : id ≠ idx) {h : Heap} (ho : h[id]? = some (.vec ep rows)) (hox : h[idx]? = some (.vec epx [x])) (hi : i ≤ len) (hl : len ≤ 1000000) {K : AV → Heap → Prop}
  (hK : ∀ ep', K (.oslc id ep' 4 0 (len + 1) false) (h.set id (.vec ep' (insA i x ((rows.drop off).take len))))) : ACalls C.P 92 [.oslc id ep 4 off len false, .int .i64 (i : Int), .oslc idx epx 4 0 1 false] h K := by
 obtain ⟨d, hd1, hd2, hd3⟩ := hd136
 have hd := ok.tok 136 d hd1
 refine ⟨fun σ w vs s hv => ?_⟩
 obtain ⟨v0, v1, v2, hvs⟩ : ∃ v0 v1 v2, vs = #[v0, v1, v2] := by
  have hlen := hv.1
  simp at hlen
  match vs, hlen with
  | ⟨[a, b, c]⟩, _ => exact ⟨a, b, c, rfl⟩
 subst hvs
 have h0 := hv.2 0 _ _ rfl rfl
 have h1 := hv.2 1 _ _ rfl rfl
 have h2 := hv.2 2 _ _ rfl rfl
 cases h1
 have hn := elems_obj s h2 hox
 rw [show ([x].drop 0).take 1 = [x] from rfl] at hn
 have hoE := elems_obj s h0 ho
 obtain ⟨hrow0, a0, cap0, hv0, hc0, hn0, olds, hcr, hol, hcell⟩ := hoE
 have hlen : ((rows.drop off).take len).length = len := by
  cases h0 <;> (first | (cases hv0; rfl) | (injection hv0 with _ e _; rw [← e]))
 rw [hlen] at hv0 hc0 hol
 obtain ⟨_, ax, capx, hvx, hcx, hnx, xv, hxr, hxl, hxc⟩ := hn
 have hvx : v2 = .slice ax 1 capx := hvx
 have hxl : xv.length = 1 * 4 := hxl
 cases h2 with
 | @oslc _ _ _ _ _ _ _ vb vst vn vsz vcap vh vk1 vk2 vk3 vk4 vk5 =>
 cases hvx
 have hxc := hxc _ rfl
 by_cases hil : i = len
 ·subst hil
  rw [← hd2] at h0
  have hnE : Elems σ w d.size (.slice (some ⟨vb, vst + 0 * 4, none⟩) 1 capx) [x] := by
   rw [hd2]
   exact ⟨(fun q row hq => by
    cases q with
    | zero => simp at hq; subst hq; exact hx
    | succ q => simp at hq), some ⟨vb, vst + 0 * 4, none⟩, capx, rfl, hcx, (fun e => by cases e), xv, hxr, hxl, (fun b hb => by cases hb; exact hxc)⟩
  obtain ⟨r, ep2, σ', w', hrun, m, hr⟩ := append_obj (P := C.P) (ty := 142) (argTypes := #[142, 142]) s rfl rfl und142 und142 hd (by omega) h0 ho hnE (by rw [hd3]; simp; omega) (by simp; omega)
  rw [hv0] at hrun
  rw [hd2] at hr
  rw [hv0]
  refine (ins_end a0 i cap0 capx ⟨vb, vst + 0 * 4, none⟩ w w' r (by omega) hc0 (fun e => ?_) hrun).mono ?_
  ·obtain ⟨z1, z2⟩ := hn0 e
   rw [z1] at hlen
   exact ⟨by simpa using hlen.symm, z2⟩
  rintro e w'' ⟨rfl, rfl⟩
  have hins : insA i x ((rows.drop off).take i) = (rows.drop off).take i ++ [x] := by
   unfold insA
   rw [List.take_of_length_le (l := (rows.drop off).take i) (by omega), List.drop_of_length_le (l := (rows.drop off).take i) (by omega)]
  exact ⟨r, rfl, σ', _, _, hK ep2, by rw [hins]; exact m, hr⟩
 ·have hlt : i < len := by omega
  cases h0 with
  | onil hh => omega
  | onilz hh => omega
  | oz hh k1 k2 => omega
  | @oslc _ _ _ _ _ _ _ blk st n size cap hh k1 k2 k3 k4 k5 =>
  cases hv0
  have hcell := hcell _ rfl
  rcases s.obj id _ ho with ⟨_, x⟩ | ⟨blk', st', sz', n', size', cells, T, e1, e2, e3, e4, e5, e6, e7, e8⟩
  ·rw [hh] at x; cases x
  rw [hh] at e1
  cases e1
  rcases s.obj idx _ hox with ⟨_, x⟩ | ⟨blk', st', sz', n', size', xcells, TX, e1, x2, x3, x4, x5, x6, x7, x8⟩
  ·rw [vh] at x; cases x
  rw [vh] at e1
  cases e1
  have hnb : vb ≠ blk := fun e => hne (s.apart id idx _ _ blk ho hox (by simp [AObj.blk, hh]) (by simp [AObj.blk, vh, e]))
  have hcs : ∀ k, (cells[st + off * 4 + k]? = olds[k]?) ∨ olds[k]? = none := fun k => by
   cases hk : olds[k]? with
   | none => exact .inr rfl
   | some v =>
    left
    have := hcell k v hk
    rw [add_mk, cell?_of e2] at this
    exact this
  have hcs' : ∀ k, k < len * 4 → cells[st + off * 4 + k]? = olds[k]? := fun k hk => by
   rcases hcs k with e | e
   ·exact e
   ·rw [List.getElem?_eq_none_iff, hol] at e; omega
  have hsz0 : cells.size ≠ 0 := by
   have := hcs' 0 (by omega)
   intro e
   rw [Array.getElem?_eq_none (by omega)] at this
   have := List.getElem?_eq_none_iff.1 this.symm
   omega
  by_cases hroom : len + 1 ≤ cap0
  ·have hend : (off + (len + 1)) * 4 ≤ (off + cap0) * 4 := Nat.mul_le_mul_right _ (by omega)
   obtain ⟨W1, c1, so1, sz1, ot1, bk1⟩ := run_copy_to (P := C.P) (argTypes := #[142, 142]) w.drew rfl und142 hd (blk := blk) (T := T) (cells := cells) e2 (o := st + off * 4 + (i + 1) * 4) (dlen := len - i) (slen := len + 1 - i) (m := len - i) (a := ⟨blk, st + off * 4 + i * 4, none⟩) (vs := olds.drop (i * 4))
    (by simp only [Nat.min_def]; split <;> omega) (by rw [List.length_drop, hol, hd2]; omega) (fun j v hj => by
     rw [List.getElem?_drop] at hj
     rw [add_mk, Nat.add_assoc]
     have := hcell _ v hj
     rw [add_mk] at this
     exact this) (by rw [List.length_drop, hol, e3]; omega) (fun v hv => hcr.2 v (List.mem_of_mem_drop hv))
   obtain ⟨W2, c2, so2, sz2, ot2, bk2⟩ := run_copy_to (P := C.P) (argTypes := #[142, 142]) W1 rfl und142 hd (blk := blk) (T := T) bk1 (o := st + off * 4 + i * 4) (dlen := len + 1 - i) (slen := 1) (m := 1) (a := ⟨vb, vst + 0 * 4, none⟩) (vs := xv)
    (by simp only [Nat.min_def]; split <;> omega) (by rw [hxl, hd2]) (fun j v hj => by
     have := hxc j v hj
     rw [add_mk] at this ⊢
     rw [cell_same (ot1 vb hnb)]
     exact this) (by rw [over_size (by rw [List.length_drop, hol, e3]; omega), hxl, e3]; omega) (fun v hv => hxr.2 v hv)
   obtain ⟨ep2, σ', l1, l2, l3, l4, l5⟩ := s.renew (blk := blk) ho (by simp [AObj.blk, hh]) (st + off * 4) 4 (len + 1) size
   have hR1 : st + off * 4 + (i + 1) * 4 + (olds.drop (i * 4)).length ≤ cells.size := by rw [List.length_drop, hol, e3]; omega
   have hR2 : st + off * 4 + i * 4 + xv.length ≤ (over (st + off * 4 + (i + 1) * 4) (olds.drop (i * 4)) cells).size := by rw [over_size hR1, hxl, e3]; omega
   have hdl : (olds.drop (i * 4)).length = (len - i) * 4 := by rw [List.length_drop, hol]; omega
   have m2 : Go.Ab.Mv σ' h w σ' (h.set id (.vec ep2 (insA i x ((rows.drop off).take len)))) W2 := by
    refine l4.write (blk := blk) ho (by simp [AObj.blk, l1.ρ _ _ _ hh]) (by simp [AObj.blk, l2]) (fun b hb => (ot2 b hb).trans (ot1 b hb)) (sz2.trans sz1) ?_ ?_
    ·exact ⟨so2.os.trans so1.os, so2.tape.trans so1.tape, so2.output.trans so1.output⟩
    ·refine ObjOk.over (h := h) (w := w) (rows := rows) _ l2 (by rw [l3]; exact e6) bk2 (by rw [over_size hR2, over_size hR1]; exact e3) (by rw [insA_len (by omega), hlen]) (by omega) (fun q row hq => ?_) ?_
     ·rcases insA_get (by omega) hq with ⟨_, b⟩ | ⟨_, b⟩ | ⟨_, b⟩
      ·exact hrow0 q row b
      ·rw [b]; exact hx
      ·exact hrow0 _ row b
     ·intro q j c hc
      obtain ⟨v, f1, f2, f3⟩ := ins_cell (σ := σ) (o := st + off * 4) (cells := over (st + off * 4 + i * 4) xv (over (st + off * 4 + (i + 1) * 4) (olds.drop (i * 4)) cells)) hlen hi hrow0 hx hcr hxr hol hxl
       (fun k hk => by rw [over_get hR2, over_get hR1, if_pos (by omega), if_pos (by omega)]; exact hcs' k (by omega))
       (fun k hk => by rw [over_get hR2, if_neg (by omega), if_pos (by omega)]; congr 1; omega)
       (fun k hk => by rw [over_get hR2, over_get hR1, if_neg (by omega), if_neg (by omega), if_neg (by omega), if_pos (by omega), List.getElem?_drop]; congr 1; omega) q j c hc
      exact ⟨v, f1, f2, f3.mono l1⟩
   have m1 : Go.Ab.Mv σ h w σ' h w := ⟨l1, l4, rfl, rfl, rfl, Nat.le_refl _, fun _ _ _ => rfl, fun b hb => .inl ((l5 b).1 hb), fun b x => .inl (by rwa [l3] at x)⟩
   refine (ins_shift blk (st + off * 4) len cap0 i vb (vst + 0 * 4) capx w W1 W2 hlt hroom (by omega) _ _ c1 (fun ty dc => c2 ty dc capx) (fun lb cb => ov98 w blk _ vb _ capx lb cb hnb x2 e2 hsz0)).mono ?_
   rintro e w'' ⟨rfl, rfl⟩
   refine ⟨_, rfl, σ', _, _, hK ep2, m1.trans m2, ?_⟩
   have := VRel.oslc (σ := σ') (lim := false) (off := 0) (len := len + 1) (cap := cap0) (sz := 4) l2 (by omega) (fun _ => by omega) (fun x => by cases x) (by omega) hroom
   simpa using this
  ·obtain ⟨inf, z, hi1, hi2, hi3, hi4, hi5, _⟩ := hd.info
   have hik : i + (len + 1 - i) = len + 1 := by omega
   have hkk : ((len + 1 - i : Nat) : Int) = (len : Int) + 1 - (i : Int) := by omega
   have htl : (olds.take (i * 4)).length = i * 4 := by rw [List.length_take, hol]; omega
   have hold : (Builtin.firstCells inf.size i (.slice (some ⟨blk, st + off * 4, none⟩) i cap0)).run Try.prog w.drew = .ok (olds.take (i * 4)).toArray w.drew := by
    rw [hi2, hd2]
    refine run_firstCells_some w.drew 4 i ⟨blk, st + off * 4, none⟩ i cap0 (olds.take (i * 4)) htl (fun j v hj => ?_)
    rw [List.getElem?_take] at hj
    split at hj
    ·exact hcell j v hj
    ·cases hj
   have und3 : Try.prog.underlying 3 = some (.int .i64) := by kernel_rfl
   have hap := fun ty => Go.Lib.run_append_grow_zeros (P := Try.prog) w 142 3 ty 136 inf z .i64 .i64 und142 und3 hi1 hi4 (some ⟨blk, st + off * 4, none⟩) i cap0 (olds.take (i * 4)) hold (len + 1 - i) (by omega) (by rw [hi2, hd2]; omega) (by omega) (by omega) (by rw [hi3, hd3]; omega)
    (by rw [hi3, hd3, hik]; exact growslice_fits (by omega) (by omega))
   rw [hik, hkk] at hap
   have hGn : len + 1 ≤ grownCap w (len + 1) cap0 136 := grownCap_ge w _ _ _
   generalize grownCap w (len + 1) cap0 136 = G at hap hGn
   obtain ⟨ROW, hROW⟩ : ∃ ROW : Array Value, ROW = (olds.take (i * 4)).toArray ++ Builtin.zeroCells z.cells (len + 1 - i) ++ Builtin.zeroCells z.cells (G - (len + 1)) := ⟨_, rfl⟩
   rw [← hROW] at hap
   have hzs : ∀ n : Nat, (Builtin.zeroCells z.cells n).size = n * 4 := fun n => by rw [← Array.length_toList, zeroCells_len, hi5, hd2]
   have hRs : ROW.size = G * 4 := by
    rw [hROW, Array.size_append, Array.size_append, hzs, hzs, List.size_toArray, htl]
    omega
   have hRg : ∀ k, k < i * 4 → ROW[k]? = olds[k]? := fun k hk => by
    rw [hROW, Array.append_assoc, Array.getElem?_append_left (by simpa [htl] using hk)]
    simp [hk]
   obtain ⟨W0, hW0⟩ : ∃ W0, W0 = w.drew.alloc (.cells ROW 136) := ⟨_, rfl⟩
   rw [← hW0] at hap
   have hp0 : W0.heap = w.heap.push (.cells ROW 136) := by rw [hW0]; rfl
   have bk0 : W0.heap[w.heap.size]? = some (.cells ROW 136 (0, 0)) := by rw [hp0]; simp
   have ot0 : ∀ b, b ≠ w.heap.size → W0.heap[b]? = w.heap[b]? := fun b hb => by rw [hp0, Array.getElem?_push, if_neg hb]
   have hvl : vb < w.heap.size := (Array.getElem?_eq_some_iff.1 x2).1
   have hbl : blk < w.heap.size := (Array.getElem?_eq_some_iff.1 e2).1
   have so0 : SameOut w W0 := by rw [hW0]; exact ⟨rfl, rfl, rfl⟩
   have sz0 : W0.heap.size = w.heap.size + 1 := by rw [hp0]; simp
   obtain ⟨W1, c1, so1, sz1, ot1, bk1⟩ := run_copy_to (P := C.P) (argTypes := #[142, 142]) W0 rfl und142 hd (blk := w.heap.size) (T := 136) bk0 (o := i * 4) (dlen := len + 1 - i) (slen := 1) (m := 1) (a := ⟨vb, vst + 0 * 4, none⟩) (vs := xv)
    (by simp only [Nat.min_def]; split <;> omega) (by rw [hxl, hd2]) (fun j v hj => by
     have := hxc j v hj
     rw [add_mk] at this ⊢
     rw [cell_same (ot0 vb (by omega))]
     exact this) (by rw [hxl, hRs]; omega) (fun v hv => hxr.2 v hv)
   have hR1 : i * 4 + xv.length ≤ ROW.size := by rw [hxl, hRs]; omega
   have hdl : (olds.drop (i * 4)).length = (len - i) * 4 := by rw [List.length_drop, hol]; omega
   have hR2 : (i + 1) * 4 + (olds.drop (i * 4)).length ≤ (over (i * 4) xv ROW).size := by rw [over_size hR1, hdl, hRs]; omega
   obtain ⟨W2, c2, so2, sz2, ot2, bk2⟩ := run_copy_to (P := C.P) (argTypes := #[142, 142]) W1.drew rfl und142 hd (blk := w.heap.size) (T := 136) bk1 (o := (i + 1) * 4) (dlen := len - i) (slen := len - i) (m := len - i) (a := ⟨blk, st + off * 4 + i * 4, none⟩) (vs := olds.drop (i * 4))
    (by simp only [Nat.min_def]; split <;> omega) (by rw [hdl, hd2]) (fun j v hj => by
     rw [List.getElem?_drop] at hj
     rw [add_mk, Nat.add_assoc]
     have := hcell _ v hj
     rw [add_mk] at this
     rw [cell_same (w := w) (show W1.drew.heap[blk]? = w.heap[blk]? from (ot1 blk (by omega)).trans (ot0 blk (by omega)))]
     exact this) hR2 (fun v hv => hcr.2 v (List.mem_of_mem_drop hv))
   have hheap : W2.heap = w.heap.push (.cells (over ((i + 1) * 4) (olds.drop (i * 4)) (over (i * 4) xv ROW)) 136) := by
    refine Array.ext_getElem? fun b => ?_
    rw [Array.getElem?_push]
    split
    ·rename_i e; rw [e]; exact bk2
    ·rename_i e; exact (ot2 b e).trans ((ot1 b e).trans (ot0 b e))
   have so : SameOut w W2 := ⟨so2.os.trans (so1.os.trans so0.os), so2.tape.trans (so1.tape.trans so0.tape), so2.output.trans (so1.output.trans so0.output)⟩
   have hcsz : (over ((i + 1) * 4) (olds.drop (i * 4)) (over (i * 4) xv ROW)).size = G * 4 := by rw [over_size hR2, over_size hR1, hRs]
   obtain ⟨ep2, σ', m, hp⟩ := s.allocRows id (insA i x ((rows.drop off).take len)) 4 (over ((i + 1) * 4) (olds.drop (i * 4)) (over (i * 4) xv ROW)) 136 (fun q row hq => by
     rcases insA_get (by omega) hq with ⟨_, b⟩ | ⟨_, b⟩ | ⟨_, b⟩
     ·exact hrow0 q row b
     ·rw [b]; exact hx
     ·exact hrow0 _ row b) (by rw [insA_len (by omega), hlen, hcsz]; omega) (fun q j c hc => by
     have := ins_cell (σ := σ) (o := 0) (cells := over ((i + 1) * 4) (olds.drop (i * 4)) (over (i * 4) xv ROW)) hlen hi hrow0 hx hcr hxr hol hxl
      (fun k hk => by rw [over_get hR2, over_get hR1, if_pos (by omega), if_pos (by omega), Nat.zero_add]; exact hRg k hk)
      (fun k hk => by rw [over_get hR2, over_get hR1, if_pos (by omega), if_neg (by omega), if_pos (by omega)]; congr 1; omega)
      (fun k hk => by rw [over_get hR2, if_neg (by omega), if_pos (by omega), List.getElem?_drop]; congr 1; omega) q j c hc
     rwa [Nat.zero_add] at this) hheap so
   refine (ins_grow blk (st + off * 4) len cap0 i vb (vst + 0 * 4) capx w.heap.size G w W0 W1 W2 hlt k5 (by omega) (by omega) hGn hap _ _ (fun ty dc => c1 ty dc capx) c2).mono ?_
   rintro e w'' ⟨rfl, rfl⟩
   refine ⟨_, rfl, σ', _, _, hK ep2, m, ?_⟩
   have := VRel.oslc (σ := σ') (lim := false) (off := 0) (len := len + 1) (cap := G) (sz := 4) hp (by rw [insA_len (by omega), hlen]; omega) (fun _ => by rw [insA_len (by omega), hlen]; omega) (fun x => by cases x) (by rw [hcsz]; omega) hGn
   simpa using this
end Go.Ab.V

namespace Go.Ab.V
open Go.Proofs
abbrev nodR (mv fd : AV) (kL eL off len : Nat) (due : Bool) : List AV := [mv, fd, .oslc (.d kL) eL 4 off len false, .fn (.func 83) [] [], .bool due]
theorem insA_map (i : Nat) (x : Wy) (l : List Wy) : insA i (wyR x) (rowsW l) = rowsW (insA i x l) := by
 simp [insA, List.map_take, List.map_drop]
def A81 : Ann := fun r => match r with
 | 0 => { slots := [(0, 0)] }
 | 2 => { slots := [(7, 1)] }
 | _ => {}
set_option maxHeartbeats 8000000 in
set_option maxRecDepth 100000 in
theorem put81 (dy : List AObj) (k kL e eL off len : Nat) (mv fd : AV) (due : Bool) (rows : List (List AV)) (l : List Wy) (x : Wy) (hk : k ≠ kL) (hn : dy[k]? = some (.vec e [nodR mv fd kL eL off len due])) (hL : (⟨[], dy⟩ : Heap)[Id.d kL]? = some (.vec eL rows)) (hp : pureRows rows)
  (hrl : off + len ≤ rows.length) (hl : (rows.drop off).take len = rowsW l) (hlen : l.length = len) (hm : MonoW x l) (hsz : len ≤ 1000000) {K : AV → Heap → Prop}
  (hK : ∀ e' st, K (.tup []) ⟨st, (dy.set kL (.vec e' (rowsW (insA (befW x l) x l)))).set k (.vec e [nodR mv fd kL e' 0 (len + 1) due])⟩) : ACalls C.P 81 [.optr (.d k) e 5 0 2, .agg (wyR x)] ⟨[], dy⟩ K := by
 have hLd : dy[kL]? = some (.vec eL rows) := hL
 have hkl : kL < dy.length := (List.getElem?_eq_some_iff.1 hLd).1
 have hn2 : ∀ o, (dy.set kL o)[k]? = some (.vec e [nodR mv fd kL eL off len due]) := fun o => by rw [List.getElem?_set_ne (Ne.symm hk)]; exact hn
 have hB := PRet.arg1 (Sub.part (sz := 4) (off := off) (len := len) (rows := rows) hrl) (show PRet C.P 91 [.lslc 4 ((rows.drop off).take len) 0 len false, .agg (wyR x), .fn (.func 83) [] []] _ by
  have := bin91 l x hm (by omega)
  unfold wysA at this
  rw [hlen] at this
  rw [hl]
  exact this)
 have hbl := befW_le x l
 refine fn_of (okz [] [91, 92] []) mixed (A := A81) 2 Try.func81 rfl ?_
 (conv => whnf)
 intro e0
 (repeat' (first | exact rfl | ((conv => whnf); first | refine optO hn ?_ | refine optO (hn2 _) ?_ | refine ACalls.read1 (rows := rows) hB rfl hp rfl (by exact hLd) ?_ | exact rfl | exact ⟨rfl, rfl⟩ | refine dk (by kernel_rfl) ?_ | refine pk (by kernel_rfl) ?_ | refine ⟨rfl, ?_⟩ | refine ⟨by (first | omega | (simp (disch := omega) only [wrapI]; first | omega | (simp; omega)) | (simp; omega)), ?_⟩ | (intro ep) | (refine ifB (fun hb => ?_) (fun hb => ?_) <;> (try simp only [qs] at hb) <;> (try simp (disch := omega) only [wrapI] at hb) <;> (try (exfalso; omega))) | fail)))
 all_goals (conv => whnf)
 refine insert92 (id := .d kL) (idx := .s 1) (epx := ep) (x := wyR x) rfl (by intro e; cases e) (by exact hLd) (by exact rfl) (Nat.le_trans hbl (by omega)) hsz fun ep' => ?_
 (repeat' (first | exact rfl | ((conv => whnf); first | refine optO hn ?_ | refine optO (hn2 _) ?_ | refine ACalls.read1 (rows := rows) hB rfl hp rfl (by exact hLd) ?_ | exact rfl | exact ⟨rfl, rfl⟩ | refine dk (by kernel_rfl) ?_ | refine pk (by kernel_rfl) ?_ | refine ⟨rfl, ?_⟩ | refine ⟨by (first | omega | (simp (disch := omega) only [wrapI]; first | omega | (simp; omega)) | (simp; omega)), ?_⟩ | (intro ep) | (refine ifB (fun hb => ?_) (fun hb => ?_) <;> (try simp only [qs] at hb) <;> (try simp (disch := omega) only [wrapI] at hb) <;> (try (exfalso; omega))) | fail)))
 all_goals (conv => whnf)
 have hr : insA (befW x l) (wyR x) ((rows.drop off).take len) = rowsW (insA (befW x l) x l) := by rw [hl]; exact insA_map _ _ _
 have hk0 := hK ep'
 rw [← hr] at hk0
 exact hk0 _
def A82 : Ann := fun r => match r with
 | 0 => { slots := [(0, 0)] }
 | 3 => { plan := some (.one 0 (.one 1 (.one 2 (.one 3 (.one 4 (.one 5 (.one 6 (.one 7 (.one 8 (.one 9 (.br 10 12 (.one 11 (.one 12 (.one 13 (.one 14 (.one 15 (.done)))))) (.one 10 (.one 11 (.one 13 (.one 14 (.one 15 (.done))))))))))))))))) }
 | _ => {}
set_option maxHeartbeats 8000000 in
set_option maxRecDepth 100000 in
theorem take82 (dy : List AObj) (k kL e eL off len : Nat) (mv fd : AV) (due : Bool) (rows : List (List AV)) (l : List Wy) (hk : k ≠ kL) (hn : dy[k]? = some (.vec e [nodR mv fd kL eL off len due])) (hL : (⟨[], dy⟩ : Heap)[Id.d kL]? = some (.vec eL rows)) (hp : pureRows rows)
  (hrl : off + len ≤ rows.length) (hl : (rows.drop off).take len = rowsW l) (hlen : l.length = len) (hsz : len ≤ 1000000) {K : AV → Heap → Prop}
  (hK0 : l = [] → ∀ st, K (.tup [.agg (wyR ⟨0, 0, 0, 0⟩), .bool false]) ⟨st, dy⟩)
  (hK : ∀ x r, l = x :: r → ∀ st, K (.tup [.agg (wyR x), .bool true]) ⟨st, dy.set k (.vec e [nodR mv fd kL eL (off + 1) (len - 1) due])⟩) : ACalls C.P 82 [.optr (.d k) e 5 0 2] ⟨[], dy⟩ K := by
 have hLd : dy[kL]? = some (.vec eL rows) := hL
 cases l with
 | nil =>
  obtain rfl : len = 0 := by simpa using hlen.symm
  refine fn_of (okz [] [] []) mixed (A := A82) 2 Try.func82 rfl ?_
  (conv => whnf)
  intro e0
  (repeat' (first | exact rfl | ((conv => whnf); first | refine optO hn ?_ | refine optO (hn2 _) ?_ | refine ACalls.read1 (rows := rows) hB rfl hp rfl (by exact hLd) ?_ | exact rfl | exact ⟨rfl, rfl⟩ | refine dk (by kernel_rfl) ?_ | refine pk (by kernel_rfl) ?_ | refine ⟨rfl, ?_⟩ | refine ⟨by (first | omega | (simp (disch := omega) only [wrapI]; first | omega | (simp; omega)) | (simp; omega)), ?_⟩ | (intro ep) | (refine ifB (fun hb => ?_) (fun hb => ?_) <;> (try simp only [qs] at hb) <;> (try simp (disch := omega) only [wrapI] at hb) <;> (try (exfalso; omega))) | fail)))
  all_goals (conv => whnf)
  exact hK0 rfl _
 | cons x r =>
  obtain ⟨n, rfl⟩ : ∃ n, len = n + 1 := ⟨r.length, by simpa using hlen.symm⟩
  have hrow : rows[off]? = some (wyR x) := by
   have := congrArg (fun z => z[0]?) hl
   simpa using this
  refine fn_of (okz [] [] []) mixed (A := A82) 2 Try.func82 rfl ?_
  (conv => whnf)
  intro e0
  (repeat' (first | exact rfl | ((conv => whnf); first | refine optO hn ?_ | refine optO (hn2 _) ?_ | refine ACalls.read1 (rows := rows) hB rfl hp rfl (by exact hLd) ?_ | exact rfl | exact ⟨rfl, rfl⟩ | refine dk (by kernel_rfl) ?_ | refine pk (by kernel_rfl) ?_ | refine ⟨rfl, ?_⟩ | refine ⟨by (first | omega | (simp (disch := omega) only [wrapI]; first | omega | (simp; omega)) | (simp; omega)), ?_⟩ | (intro ep) | (refine ifB (fun hb => ?_) (fun hb => ?_) <;> (try simp only [qs] at hb) <;> (try simp (disch := omega) only [wrapI] at hb) <;> (try (exfalso; omega))) | fail)))
  all_goals (conv => whnf)
  have hrow0 : rows[off + Int.toNat 0]? = some (wyR x) := hrow
  refine optO hLd ?_
  (repeat' (first | exact rfl | ((conv => whnf); first | refine optO hn ?_ | refine optO hLd ?_ | refine optS hrow0 ?_ | exact rfl | exact ⟨rfl, rfl⟩ | refine dk (by kernel_rfl) ?_ | refine pk (by kernel_rfl) ?_ | refine ⟨rfl, ?_⟩ | refine ⟨by (first | omega | (simp (disch := omega) only [wrapI]; first | omega | (simp; omega)) | (simp; omega)), ?_⟩ | (intro ep) | (refine ifB (fun hb => ?_) (fun hb => ?_) <;> (try simp only [qs] at hb) <;> (try simp (disch := omega) only [wrapI] at hb) <;> (try (exfalso; omega))) | fail)))
  all_goals (conv => whnf)
  refine ⟨?_, ?_⟩
  ·(repeat' (first | exact rfl | ((conv => whnf); first | refine optO hn ?_ | refine optO hLd ?_ | refine optS hrow0 ?_ | exact rfl | exact ⟨rfl, rfl⟩ | refine dk (by kernel_rfl) ?_ | refine pk (by kernel_rfl) ?_ | refine ⟨rfl, ?_⟩ | refine ⟨by (first | omega | (simp (disch := omega) only [wrapI]; first | omega | (simp; omega)) | (simp; omega)), ?_⟩ | (intro ep) | (refine ifB (fun hb => ?_) (fun hb => ?_) <;> (try simp only [qs] at hb) <;> (try simp (disch := omega) only [wrapI] at hb) <;> (try (exfalso; omega))) | fail)))
   all_goals (conv => whnf)
   exact hK x r rfl _
  ·(repeat' (first | exact rfl | ((conv => whnf); first | refine optO hn ?_ | refine optO hLd ?_ | refine optS hrow0 ?_ | exact rfl | exact ⟨rfl, rfl⟩ | refine dk (by kernel_rfl) ?_ | refine pk (by kernel_rfl) ?_ | refine ⟨rfl, ?_⟩ | refine ⟨by (first | omega | (simp (disch := omega) only [wrapI]; first | omega | (simp; omega)) | (simp; omega)), ?_⟩ | (intro ep) | (refine ifB (fun hb => ?_) (fun hb => ?_) <;> (try simp only [qs] at hb) <;> (try simp (disch := omega) only [wrapI] at hb) <;> (try (exfalso; omega))) | fail)))
   all_goals (conv => whnf)
   exact hK x r rfl _
end Go.Ab.V
