/-
  What is proved here serves the law's text: each part says its own claim and its conditions. No condition is left open.
-/
import Derived.Test.YthdhhhgjdegafaaKV
import Derived.Test.YthdhhhgjdegafaaKX
set_option linter.unusedSimpArgs false
set_option linter.unusedVariables false

namespace Go.Ab
def flat0 : AV → Bool
 | .int _ _ | .bool _ => true
 | _ => false
def flatV : AV → Bool
 | .tup cs => cs.all flat0
 | a => flat0 a
theorem flat0_rel {σ τ : Sg} {a : AV} {v : Value} (hf : flat0 a = true) (h : VRel σ a v) : VRel τ a v := by
 cases h <;> first | exact .int | exact .bool | simp [flat0] at hf
theorem flatV_rel {σ τ : Sg} {a : AV} {v : Value} (hf : flatV a = true) (h : VRel σ a v) : VRel τ a v := by
 by_cases c : ∃ cs, a = .tup cs
 ·obtain ⟨cs, rfl⟩ := c
  cases h with
  | tup l w =>
   refine .tup l fun i c v x y => flat0_rel ?_ (w i c v x y)
   exact List.all_eq_true.1 hf c (List.mem_of_getElem? x)
 ·refine flat0_rel ?_ h
  unfold flatV at hf
  split at hf
  ·exact absurd ⟨_, rfl⟩ c
  ·exact hf
def pureF : AV → Bool
 | .fn _ [] [] => true
 | a => a.isPure
theorem VRel.pureF {σ : Sg} {a : AV} {v : Value} (h : VRel σ a v) (hp : Ab.pureF a = true) : VRel σ.pure a v := by
 unfold Ab.pureF at hp
 split at hp
 ·cases h with
  | fn l1 l2 v1 v2 => exact .fn l1 l2 (fun i c v x => by simp at x) (fun i c v x => by simp at x)
 ·exact h.isPure hp
theorem VRels.pureF {σ : Sg} {zs : List AV} {vs : List Value} (h : VRels σ zs vs) (hp : zs.all Ab.pureF = true) : VRels σ.pure zs vs :=
 ⟨h.1, fun i a v x y => (h.2 i a v x y).pureF (List.all_eq_true.1 hp a (List.mem_of_getElem? x))⟩
theorem ACalls.read1 {P : Program} {f : FuncId} {sz off len e : Nat} {lim : Bool} {post : List AV} {rows : List (List AV)} {r : AV} (hc : PRet P f (.lslc sz rows off len lim :: post) r) (p1 : post.all Ab.pureF = true) (p2 : pureRows rows) (p4 : flatV r = true)
  {h : Heap} {id : Id} (ho : h[id]? = some (.vec e rows)) {K : AV → Heap → Prop} (hK : K r h) : ACalls P f (.oslc id e sz off len lim :: post) h K := by
 classical
 have cp : ∀ (i j : Nat) (c : AV), cellAt rows i j = some c → c.pure1 = true := fun i j c hc => by
  obtain ⟨row, a, b⟩ := cellAt_get hc
  exact p2 row (List.mem_of_getElem? a) c (List.mem_of_getElem? b)
 refine ⟨fun σ w vs s hv => ?_⟩
 have fin : ∀ (FMx : Nat → Option (Array Value)), (∀ b cs, σ.FM b = some cs → FMx b = some cs) → (∀ b, FMx b ≠ none → σ.FM b ≠ none ∨ Live σ h b) → (∀ b cs, FMx b = some cs → ∃ T fz, w.heap[b]? = some (.cells cs T fz)) →
   VRels ⟨fun _ _ => none, FMx, fun _ => none⟩ (.lslc sz rows off len lim :: post) vs.toList → Calls P f vs w fun e w' => ∃ v, e = .returned v ∧ ∃ σ' h' r, K r h' ∧ Mv σ h w σ' h' w' ∧ VRel σ' r v := by
  intro FMx f1 f2 f3 hv0
  have s0 : Sim ⟨fun _ _ => none, FMx, fun _ => none⟩ Heap.nil w := ⟨f3, fun i o ho => (Heap.nil_some ho).elim, fun i j oi oj b hi => (Heap.nil_some hi).elim, ⟨0, fun _ _ _ => rfl⟩, fun b o x => by simp at x⟩
  refine (hc.out.use s0 hv0).mono ?_
  rintro ee w' ⟨v, rfl, σ1, r1, rfl, m, x⟩
  let σ2 : Sg := { ρ := σ.ρ, FM := fun b => if Live σ h b then none else σ1.FM b, RM := σ.RM }
  have leF : ∀ b cs, σ.FM b = some cs → σ2.FM b = some cs := fun b cs x => by
   show (if Live σ h b then none else σ1.FM b) = some cs
   rw [if_neg]
   ·exact m.le.FM b cs (f1 b cs x)
   ·intro hl
    rw [Live.noFM s hl] at x
    exact absurd x (by simp)
  have le : Sg.Le σ σ2 := ⟨fun _ _ _ x => x, leF, fun _ _ x => x⟩
  have nl : ∀ b, ¬ Live (⟨fun _ _ => none, FMx, fun _ => none⟩ : Sg) Heap.nil b := fun b ⟨i, o, ho, _⟩ => Heap.nil_some ho
  have hblock : ∀ b, b < w.heap.size → w'.heap[b]? = w.heap[b]? := fun b hb => m.block b hb (nl b)
  have hn : ∀ b, Live σ h b → σ2.FM b = none := fun b hl => if_pos hl
  refine ⟨v, rfl, σ2, h, _, hK, ⟨le, ⟨fun b cs x => ?_, fun i o ho => ?_, fun i j oi oj b hi hj bi bj => s.apart i j oi oj b hi hj bi bj, s.fresh, fun b o x => let ⟨r1, r2⟩ := s.rm b o x; ⟨by rw [hblock b (Array.getElem?_eq_some_iff.1 r1).1]; exact r1, r2⟩⟩, m.os, m.tape, m.output, m.size, fun b hb _ => hblock b hb, fun b hb => .inl hb, fun b hb => ?_⟩, flatV_rel p4 x⟩
  ·have x : (if Live σ h b then none else σ1.FM b) = some cs := x
   split at x
   ·cases x
   ·exact m.sim.fm b cs x
  ·exact (s.obj i o ho).keep le fun b hb => ⟨hblock b (Live.lt s ⟨i, o, ho, hb⟩), hn b ⟨i, o, ho, hb⟩⟩
  ·have hb : (if Live σ h b then none else σ1.FM b) ≠ none := hb
   split at hb
   ·exact absurd rfl hb
   ·rename_i hl
    rcases m.new b hb with y | y | y
    ·rcases f2 b y with z | z
     ·exact .inl z
     ·exact absurd z hl
    ·exact absurd y (nl b)
    ·exact .inr (.inr y)
 obtain ⟨v0, vr, hvs⟩ : ∃ v0 vr, vs.toList = v0 :: vr := by
  cases hl : vs.toList with
  | nil => have := hv.1; rw [hl] at this; simp at this
  | cons a b => exact ⟨a, b, rfl⟩
 rw [hvs] at hv fin
 have h0 := hv.2 0 _ _ rfl rfl
 have ht : VRels σ post vr := ⟨by have := hv.1; simpa using this, fun i b u x y => hv.2 (i + 1) b u (by simpa using x) (by simpa using y)⟩
 have hp : ∀ (FMx : Nat → Option (Array Value)), (∀ b cs, σ.FM b = some cs → FMx b = some cs) → VRels ⟨fun _ _ => none, FMx, fun _ => none⟩ post vr := fun FMx f1 => (ht.pureF p1).mono0 ⟨fun _ _ _ x => by simp at x, f1⟩
 cases h0 with
 | @oslc _ _ _ _ _ _ _ blk st n size cap hρ h1 h2 h3 h4 h5 =>
  rcases s.obj id _ ho with ⟨_, x⟩ | ⟨blk', st', sz', n', size', cells, T, e1, e2, e3, e4, e5, e6, e7, e8⟩
  ·rw [hρ] at x; cases x
  rw [hρ] at e1
  cases e1
  have hl : Live σ h blk := ⟨id, _, ho, by simp [AObj.blk, hρ]⟩
  have f1 : ∀ b cs, σ.FM b = some cs → (if b = blk then some cells else σ.FM b) = some cs := fun b cs x => by
   rw [if_neg]
   ·exact x
   ·rintro rfl
    rw [e6] at x
    cases x
  refine fin (fun b => if b = blk then some cells else σ.FM b) f1 (fun b hb => ?_) (fun b cs x => ?_) (.cons ?_ (hp _ f1))
  ·split at hb
   ·rename_i e; subst e; exact .inr hl
   ·exact .inl hb
  ·split at x
   ·rename_i e; subst e; cases x; exact ⟨_, _, e2⟩
   ·exact s.fm b cs x
  ·have le0 : Sg.Le0 σ.pure (⟨fun _ _ => none, fun b => if b = blk then some cells else σ.FM b, fun _ => none⟩ : Sg).pure := ⟨fun _ _ _ x => by simp at x, f1⟩
   refine .lslc (blk := blk) (st := st) (fun i j => cells.getD (st + i * sz + j) undef) e7 (fun i j c hc => ?_) (fun i j c hc => ?_) (fun i j c hc => ?_) (by omega) h3 h5
   ·obtain ⟨v, f1, f2, f3⟩ := e8 i j c hc
    exact ⟨cells, by simp, by rw [f1]; simp [f1]⟩
   ·obtain ⟨v, f1, f2, f3⟩ := e8 i j c hc
    simp [f1, f2]
   ·obtain ⟨v, g1, g2, g3⟩ := e8 i j c hc
    have := (g3.pure1 (cp i j c hc)).mono0 le0
    simpa [g1] using this
 | onil hρ => exact fin σ.FM (fun _ _ x => x) (fun b hb => .inl hb) s.fm (.cons .lnil (hp _ fun _ _ x => x))
 | onilz hρ => exact fin σ.FM (fun _ _ x => x) (fun b hb => .inl hb) s.fm (.cons .lz (hp _ fun _ _ x => x))
 | oz hρ h1 h2 => exact fin σ.FM (fun _ _ x => x) (fun b hb => .inl hb) s.fm (.cons .lz (hp _ fun _ _ x => x))
end Go.Ab
