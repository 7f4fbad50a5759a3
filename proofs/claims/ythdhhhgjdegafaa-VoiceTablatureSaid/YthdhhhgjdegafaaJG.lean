/-
  What is proved here serves the law's text: each part says its own claim and its conditions. No condition is left open.
-/
import Derived.Test.YthdhhhgjdegafaaJD
import Derived.Test.YthdhhhgjdegafaaJF
set_option linter.unusedSimpArgs false
set_option linter.unusedVariables false

namespace Go.Ab
theorem ACalls.atS {P : Program} {f : FuncId} {q sz off len : Nat} {lim : Bool} {post : List AV} {rows rows1 : List (List AV)} {r : AV} {stq : Nat → List AObj}
  (hl0 : 0 < len) (hc : ∀ e0, ACalls P f (.oslc (.s q) e0 sz off len lim :: post) ⟨stq e0, []⟩ fun x h' => x = r ∧ h'.st[q]? = some (.vec e0 rows1))
  (hq : ∀ (e0 k : Nat) (o : AObj), (stq e0)[k]? = some o → (k = q ∧ o = .vec e0 rows) ∨ o = .hole)
  (p1 : post.all AV.isPure = true) (p2 : pureRows rows) (p3 : pureRows rows1) (p4 : r.isPure = true)
  {h : Heap} {id : Id} {e : Nat} (ho : h[id]? = some (.vec e rows)) {K : AV → Heap → Prop} (hK : K r (h.set id (.vec e rows1))) : ACalls P f (.oslc id e sz off len lim :: post) h K := by
 have cp : ∀ {R : List (List AV)}, pureRows R → ∀ (i j : Nat) (c : AV), cellAt R i j = some c → c.pure1 = true := fun hp i j c hc => by
  obtain ⟨row, a, b⟩ := cellAt_get hc
  exact hp row (List.mem_of_getElem? a) c (List.mem_of_getElem? b)
 refine ⟨fun σ w vs s hv => ?_⟩
 obtain ⟨v0, vr, hvs⟩ : ∃ v0 vr, vs.toList = v0 :: vr := by
  cases hl : vs.toList with
  | nil => have := hv.1; rw [hl] at this; simp at this
  | cons a b => exact ⟨a, b, rfl⟩
 rw [hvs] at hv
 have h0 := hv.2 0 _ _ rfl rfl
 cases h0 with
 | onil => omega
 | onilz => omega
 | oz => omega
 | @oslc _ _ _ _ _ _ _ blk st n size cap hρ g1 g2 g3 g4 g5 =>
 let σ0 : Sg := { ρ := fun j ep => if j = .s q ∧ ep = 0 then some (.at blk st sz n size) else none, FM := σ.FM, RM := σ.RM }
 have hρ0 : σ0.ρ (.s q) 0 = some (.at blk st sz n size) := by show (if _ then _ else _) = _; rw [if_pos ⟨rfl, rfl⟩]
 have le0 : Sg.Le0 σ.pure σ0 := ⟨fun _ _ _ x => by simp at x, fun _ _ x => x⟩
 have obj0 : ∀ (i : Id) (o : AObj), (⟨stq 0, []⟩ : Heap)[i]? = some o → (i = .s q ∧ o = .vec 0 rows) ∨ o = .hole := by
  intro i o hi
  cases i with
  | d k => have hi : ([] : List AObj)[k]? = some o := hi; simp at hi
  | s k =>
       rcases hq 0 k o hi with ⟨rfl, h⟩ | h
       ·exact .inl ⟨rfl, h⟩
       ·exact .inr h
 have live0 : ∀ b, Live σ0 ⟨stq 0, []⟩ b → b = blk := by
  rintro b ⟨i, o, hi, hb⟩
  rcases obj0 i o hi with ⟨rfl, rfl⟩ | rfl
  ·simp only [AObj.blk, hρ0, Option.some.injEq] at hb; exact hb.symm
  ·simp [AObj.blk] at hb
 have hid : (AObj.vec e rows).blk σ id = some blk := by simp [AObj.blk, hρ]
 have s0 : Sim σ0 ⟨stq 0, []⟩ w := by
  refine ⟨s.fm, fun i o hi => ?_, fun i j oi oj b hi hj bi bj => ?_, ⟨1, fun i ep hep => ?_⟩, s.rm⟩
  ·rcases obj0 i o hi with ⟨rfl, rfl⟩ | rfl
   ·rcases s.obj id _ ho with ⟨_, h2⟩ | ⟨blk', st', sz', n', size', cs, T, h1, h2, h3, h4, h5, h6, h7, h8⟩
    ·rw [hρ] at h2; cases h2
    ·rw [hρ] at h1
     cases h1
     exact .inr ⟨blk, st, sz, n, size, cs, T, hρ0, h2, h3, h4, h5, h6, h7, fun i j c x => let ⟨v, a, b, d⟩ := h8 i j c x; ⟨v, a, b, (d.pure1 (cp p2 i j c x)).mono0 le0⟩⟩
   ·trivial
  ·rcases obj0 i oi hi with ⟨rfl, rfl⟩ | rfl
   ·rcases obj0 j oj hj with ⟨rfl, rfl⟩ | rfl
    ·rfl
    ·simp [AObj.blk] at bj
   ·simp [AObj.blk] at bi
  ·show (if _ then _ else _) = _
   rw [if_neg (by rintro ⟨_, h⟩; omega)]
 have hv0 : VRels σ0 (.oslc (.s q) 0 sz off len lim :: post) (Value.slice (some ⟨blk, st + off * sz, none⟩) len cap :: vr) := by
  refine .cons (.oslc hρ0 g1 g2 g3 g4 g5) ?_
  have ht : VRels σ post vr := ⟨by have := hv.1; simpa using this, fun i b u x y => hv.2 (i + 1) b u (by simpa using x) (by simpa using y)⟩
  exact (ht.pure p1).mono0 le0
 rw [← hvs] at hv0
 refine ((hc 0).use σ0 w vs s0 hv0).mono ?_
 rintro ee w' ⟨v, rfl, σ1, h1, r1, ⟨rfl, hst⟩, m, x⟩
 let σ2 : Sg := { ρ := σ.ρ, FM := σ1.FM, RM := σ.RM }
 have le : Sg.Le σ σ2 := ⟨fun _ _ _ x => x, fun b cs x => m.le.FM b cs x, fun _ _ x => x⟩
 have le12 : Sg.Le0 σ1.pure σ2 := ⟨fun _ _ _ x => by simp at x, fun _ _ x => x⟩
 have hρ1 : σ1.ρ (.s q) 0 = some (.at blk st sz n size) := m.le.ρ _ _ _ hρ0
 have old : ∀ (i : Id) (o : AObj), (h.set id (.vec e rows1))[i]? = some o → (i = id ∧ o = .vec e rows1) ∨ (i ≠ id ∧ h[i]? = some o) := by
  intro i o hi
  by_cases c : i = id
  ·subst c
   rw [Heap.get_some ho] at hi
   exact .inl ⟨rfl, (Option.some.inj hi).symm⟩
  ·rw [Heap.getElem?_set_ne (Ne.symm c)] at hi
   exact .inr ⟨c, hi⟩
 have lt : blk < w.heap.size := Live.lt s ⟨id, _, ho, hid⟩
 have oth : ∀ (i : Id) (o : AObj) (b : Nat), i ≠ id → h[i]? = some o → o.blk σ i = some b → b ≠ blk := by
  rintro i o b hne hi hb rfl
  exact hne (s.apart i id o _ b hi ho hb hid)
 have nfm : ∀ b, Live σ h b → b ≠ blk → σ1.FM b = none := fun b hl hb => by
  cases hf : σ1.FM b with
  | none => rfl
  | some cs =>
   rcases m.new b (by rw [hf]; simp) with y | y | y
   ·exact absurd (Live.noFM s hl) y
   ·exact absurd (live0 b y) hb
   ·have := Live.lt s hl; omega
 have back : ∀ (i : Id) (o : AObj) (b : Nat), (h.set id (.vec e rows1))[i]? = some o → o.blk σ2 i = some b → ∃ o', h[i]? = some o' ∧ o'.blk σ i = some b := by
  intro i o b hi hb
  rcases old i o hi with ⟨rfl, rfl⟩ | ⟨_, h2⟩
  ·exact ⟨_, ho, hb⟩
  ·exact ⟨o, h2, by cases o <;> exact hb⟩
 refine ⟨v, rfl, σ2, _, _, hK, ⟨le, ⟨m.sim.fm, fun i o hi => ?_, fun i j oi oj b hi hj bi bj => ?_, s.fresh, fun b o x => m.sim.rm b o (m.le.RM b o x)⟩, m.os, m.tape, m.output, m.size, fun b hb hnl => ?_, fun b hb => ?_, fun b hb => ?_⟩, (x.isPure p4).mono0 le12⟩
 ·rcases old i o hi with ⟨rfl, rfl⟩ | ⟨hne, h2⟩
  ·rcases m.sim.obj (.s q) _ hst with ⟨_, h2⟩ | ⟨blk', st', sz', n', size', cs, T, h1, h2, h3, h4, h5, h6, h7, h8⟩
   ·rw [hρ1] at h2; cases h2
   ·rw [hρ1] at h1
    cases h1
    exact .inr ⟨blk, st, sz, n, size, cs, T, hρ, h2, h3, h4, h5, h6, h7, fun i j c x => let ⟨v, a, b, d⟩ := h8 i j c x; ⟨v, a, b, (d.pure1 (cp p3 i j c x)).mono0 le12⟩⟩
  ·refine (s.obj i o h2).keep le fun b hb => ?_
   have hb2 := oth i o b hne h2 hb
   have hl : Live σ h b := ⟨i, o, h2, hb⟩
   exact ⟨m.block b (Live.lt s hl) fun y => hb2 (live0 b y), nfm b hl hb2⟩
 ·obtain ⟨o1, a1, b1⟩ := back i oi b hi bi
  obtain ⟨o2, a2, b2⟩ := back j oj b hj bj
  exact s.apart i j o1 o2 b a1 a2 b1 b2
 ·exact m.block b hb fun y => hnl (by rw [live0 b y]; exact ⟨id, _, ho, hid⟩)
 ·obtain ⟨i, o, hi, hbx⟩ := hb
  obtain ⟨o', a, b'⟩ := back i o b hi hbx
  exact .inl ⟨i, o', a, b'⟩
 ·rcases m.new b hb with y | y | y
  ·exact .inl y
  ·exact .inr (.inl (by rw [live0 b y]; exact ⟨id, _, ho, hid⟩))
  ·exact .inr (.inr y)
end Go.Ab
