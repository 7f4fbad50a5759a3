/-
  What is proved here serves the law's text: each part says its own claim and its conditions. No condition is left open.
-/
import Derived.Test.YthdhhhgjdegafaaKA
import Derived.OrdersIn
import Derived.RangeFuncLeaves
import Derived.RangeFuncRecord
set_option linter.unusedSimpArgs false
set_option linter.unusedVariables false

namespace Go.Ab
def pureRows (rows : List (List AV)) : Prop := ∀ row ∈ rows, ∀ c ∈ row, c.pure1 = true
def frz1 (h : Heap) (a : AV) (K : AV → Heap → Prop) : Prop :=
 match a with
 | .oslc id ep sz off len lim => match h[id]? with
  | some (.vec ep' rows) => ep' = ep ∧ pureRows rows ∧ K (.lslc sz rows off len lim) (h.set id .hole)
  | _ => False
 | a => K a h
def frzCells (h : Heap) : List AV → (List AV → Heap → Prop) → Prop
 | [], K => K [] h
 | a :: r, K => frz1 h a fun a' h' => frzCells h' r fun r' h'' => K (a' :: r') h''
def frzA (h : Heap) (a : AV) (K : AV → Heap → Prop) : Prop :=
 match a with
 | .agg cs => frzCells h cs fun cs' h' => K (.agg cs') h'
 | a => frz1 h a K
def frzAs (h : Heap) : List AV → (List AV → Heap → Prop) → Prop
 | [], K => K [] h
 | a :: r, K => frzA h a fun a' h' => frzAs h' r fun r' h'' => K (a' :: r') h''
def frzK (h : Heap) (a : AV) (K : AV → Heap → Prop) : Prop :=
 match a with
 | .tup cs => frzAs h cs fun cs' h' => K (.tup cs') h'
 | a => frzA h a K
section
variable {P : Program} {ti : TI} {σ : Sg}
theorem frz1_sound {h : Heap} {w : World} (s : Sim σ h w) {a : AV} {v : Value} (hv : VRel σ a v) {K : AV → Heap → Prop} (hk : frz1 h a K) :
  ∃ σ' h' a', Mv σ h w σ' h' w ∧ VRel σ' a' v ∧ K a' h' := by
 unfold frz1 at hk
 split at hk
 ·rename_i id ep sz off len lim
  split at hk
  ·rename_i ep' rows ho
   obtain ⟨rfl, hp, hk⟩ := hk
   have hother : ∀ (i : Id) (x : AObj), (h.set id .hole)[i]? = some x → x = .hole ∨ (i ≠ id ∧ h[i]? = some x) := fun i x hx => by
    by_cases hi : i = id
    ·subst hi
     rw [Heap.getElem?_set_self'] at hx
     cases hh : h[i]? with
     | none => simp [hh] at hx
     | some y => simp [hh] at hx; exact .inl hx.symm
    ·rw [Heap.getElem?_set_ne (Ne.symm hi)] at hx; exact .inr ⟨hi, hx⟩
   have mf : Mv σ h w σ (h.set id .hole) w := s.forget fun i x hx => (hother i x hx).imp (fun y => y) And.right
   cases hv with
   | @oslc _ _ _ _ _ _ _ blk st n size cap hh h1 h2 h3 h4 h5 =>
    rcases s.obj id _ ho with ⟨_, x⟩ | ⟨blk', st', sz', n', size', cells, T, e1, e2, e3, e4, e5, e6, e7, e8⟩
    ·rw [hh] at x; cases x
    rw [hh] at e1
    cases e1
    let σ' : Sg := { ρ := σ.ρ, FM := fun b => if b = blk then some cells else σ.FM b, RM := σ.RM }
    have hle : Sg.Le σ σ' := ⟨fun _ _ _ x => x, fun b cs x => by
     show (if b = blk then some cells else σ.FM b) = some cs
     split
     ·rename_i e; subst e; rw [e6] at x; cases x
     ·exact x, fun _ _ x => x⟩
    have hlv : Live σ h blk := ⟨id, _, ho, by simp [AObj.blk, hh]⟩
    have hblk : ∀ (i : Id) (x : AObj) (b : Nat), i ≠ id → h[i]? = some x → x.blk σ i = some b → b ≠ blk := by
     rintro i x b hi hx hb rfl
     exact hi (s.apart i id x _ b hx ho hb (by simp [AObj.blk, hh]))
    have hsim : Sim σ' (h.set id .hole) w := by
     refine ⟨fun b cs x => ?_, fun i x hx => ?_, fun i j oi oj b hi hj bi bj => ?_, s.fresh, s.rm⟩
     ·have x : (if b = blk then some cells else σ.FM b) = some cs := x
      by_cases e : b = blk
      ·subst e
       rw [if_pos rfl] at x
       cases x
       exact ⟨_, _, e2⟩
      ·rw [if_neg e] at x
       exact s.fm b cs x
     ·rcases hother i x hx with rfl | ⟨hi, hx'⟩
      ·trivial
      ·refine (s.obj i x hx').keep hle fun b hb => ⟨rfl, ?_⟩
       show (if b = blk then some cells else σ.FM b) = none
       rw [if_neg (hblk i x b hi hx' hb)]
       exact Live.noFM s ⟨i, x, hx', hb⟩
     ·have e : ∀ (i : Id) (x : AObj), x.blk σ' i = x.blk σ i := fun i x => rfl
      rw [e] at bi bj
      rcases hother i oi hi with rfl | ⟨_, hi'⟩
      ·simp [AObj.blk] at bi
      ·rcases hother j oj hj with rfl | ⟨_, hj'⟩
       ·simp [AObj.blk] at bj
       ·exact s.apart i j oi oj b hi' hj' bi bj
    refine ⟨σ', h.set id .hole, .lslc sz rows off len lim, ⟨hle, hsim, rfl, rfl, rfl, Nat.le_refl _, fun _ _ _ => rfl, fun b hb => ?_, fun b hb => ?_⟩, ?_, hk⟩
    ·obtain ⟨i, x, hx, hbx⟩ := hb
     rcases hother i x hx with rfl | ⟨_, hx'⟩
     ·simp [AObj.blk] at hbx
     ·exact .inl ⟨i, x, hx', hbx⟩
    ·have hb : (if b = blk then some cells else σ.FM b) ≠ none := hb
     split at hb
     ·rename_i e; subst e; exact .inr (.inl hlv)
     ·exact .inl hb
    ·refine .lslc (blk := blk) (st := st) (fun i j => cells.getD (st + i * sz + j) undef) e7 (fun i j c hc => ?_) (fun i j c hc => ?_) (fun i j c hc => ?_) (by omega) h3 h5
     ·obtain ⟨v, f1, f2, f3⟩ := e8 i j c hc
      refine ⟨cells, by show (if blk = blk then _ else _) = _; simp, ?_⟩
      rw [f1]; simp [f1]
     ·obtain ⟨v, f1, f2, f3⟩ := e8 i j c hc
      simp [f1, f2]
     ·obtain ⟨v, f1, f2, f3⟩ := e8 i j c hc
      obtain ⟨row, hr, hj⟩ := cellAt_get hc
      have hpc := hp row (List.mem_of_getElem? hr) c (List.mem_of_getElem? hj)
      have := (f3.mono hle).pure1 hpc
      simpa [f1] using this
   | onil hh => exact ⟨σ, _, _, mf, .lnil, hk⟩
   | onilz hh => exact ⟨σ, _, _, mf, .lz, hk⟩
   | oz hh h1 h2 => exact ⟨σ, _, _, mf, .lz, hk⟩
  ·exact hk.elim
 ·exact ⟨σ, h, _, .refl s, hv, hk⟩
theorem frzCells_sound : ∀ {cs : List AV} {vs : List Value} {σ : Sg} {h : Heap} {w : World}, Sim σ h w → VRels σ cs vs → ∀ {K : List AV → Heap → Prop}, frzCells h cs K →
  ∃ σ' h' cs', Mv σ h w σ' h' w ∧ VRels σ' cs' vs ∧ K cs' h' := by
 intro cs
 induction cs with
 | nil =>
  intro vs σ h w s hv K hk
  exact ⟨σ, h, [], .refl s, hv, hk⟩
 | cons c cs ih =>
  intro vs σ h w s hv K hk
  match vs, hv with
  | [], hv => cases hv.1
  | v :: vs, hv =>
   obtain ⟨σ1, h1, c', m1, r1, k1⟩ := frz1_sound s (hv.2 0 c v rfl rfl) hk
   have htl : VRels σ cs vs := ⟨by have := hv.1; simpa using this, fun i a v x y => hv.2 (i + 1) a v (by simpa using x) (by simpa using y)⟩
   obtain ⟨σ2, h2, cs', m2, r2, k2⟩ := ih m1.sim (htl.mono m1.le) k1
   exact ⟨σ2, h2, c' :: cs', m1.trans m2, VRels.cons (r1.mono m2.le) r2, k2⟩
theorem frzA_sound {h : Heap} {w : World} (s : Sim σ h w) {a : AV} {v : Value} (hv : VRel σ a v) {K : AV → Heap → Prop} (hk : frzA h a K) :
  ∃ σ' h' a', Mv σ h w σ' h' w ∧ VRel σ' a' v ∧ K a' h' := by
 unfold frzA at hk
 split at hk
 ·rename_i cs
  cases hv with
  | @agg _ _ vs l o hh =>
   obtain ⟨σ', h', cs', m, r, k⟩ := frzCells_sound s (vs := vs.toList) ⟨by simpa using l, fun i a v x y => hh i a v x (by simpa using y)⟩ hk
   exact ⟨σ', h', _, m, .agg (by have := r.1; simpa using this) o (fun i a v x y => r.2 i a v x (by simpa using y)), k⟩
 ·obtain ⟨σ', h', a', m, r, k⟩ := frz1_sound s hv hk
  exact ⟨σ', h', a', m, r, k⟩
theorem frzAs_sound : ∀ {cs : List AV} {vs : List Value} {σ : Sg} {h : Heap} {w : World}, Sim σ h w → VRels σ cs vs → ∀ {K : List AV → Heap → Prop}, frzAs h cs K →
  ∃ σ' h' cs', Mv σ h w σ' h' w ∧ VRels σ' cs' vs ∧ K cs' h' := by
 intro cs
 induction cs with
 | nil =>
  intro vs σ h w s hv K hk
  exact ⟨σ, h, [], .refl s, hv, hk⟩
 | cons c cs ih =>
  intro vs σ h w s hv K hk
  match vs, hv with
  | [], hv => cases hv.1
  | v :: vs, hv =>
   obtain ⟨σ1, h1, c', m1, r1, k1⟩ := frzA_sound s (hv.2 0 c v rfl rfl) hk
   have htl : VRels σ cs vs := ⟨by have := hv.1; simpa using this, fun i a v x y => hv.2 (i + 1) a v (by simpa using x) (by simpa using y)⟩
   obtain ⟨σ2, h2, cs', m2, r2, k2⟩ := ih m1.sim (htl.mono m1.le) k1
   exact ⟨σ2, h2, c' :: cs', m1.trans m2, VRels.cons (r1.mono m2.le) r2, k2⟩
theorem frzK_sound {h : Heap} {w : World} (s : Sim σ h w) {a : AV} {v : Value} (hv : VRel σ a v) {K : AV → Heap → Prop} (hk : frzK h a K) :
  ∃ σ' h' a', Mv σ h w σ' h' w ∧ VRel σ' a' v ∧ K a' h' := by
 unfold frzK at hk
 split at hk
 ·rename_i cs
  cases hv with
  | @tup _ _ vs l hh =>
   obtain ⟨σ', h', cs', m, r, k⟩ := frzAs_sound s (vs := vs.toList) ⟨by simpa using l, fun i a v x y => hh i a v x (by simpa using y)⟩ hk
   exact ⟨σ', h', _, m, .tup (by have := r.1; simpa using this) (fun i a v x y => r.2 i a v x (by simpa using y)), k⟩
 ·exact frzA_sound s hv hk
end
def AV.isPure2 : AV → Bool
 | .tup cs => cs.all AV.isPure
 | a => a.isPure
theorem VRel.isPure2 {σ : Sg} {a : AV} {v : Value} (h : VRel σ a v) (hp : a.isPure2 = true) : VRel σ.pure a v := by
 cases h with
 | tup l w =>
  simp only [AV.isPure2, List.all_eq_true] at hp
  exact .tup l (fun i c v a b => (w i c v a b).isPure (hp c (List.mem_of_getElem? a)))
 | _ => exact VRel.isPure (by constructor <;> assumption) (by simpa [AV.isPure2] using hp)
structure PCalls (P : Program) (f : FuncId) (args : List AV) (K : AV → Prop) : Prop where
 out : ACalls P f args Heap.nil fun r h' => frzK h' r fun r' _ => r'.isPure2 = true ∧ K r'
structure PRet (P : Program) (f : FuncId) (args : List AV) (r : AV) : Prop where
 out : PCalls P f args fun x => x = r
theorem frz1_mono {h : Heap} {a : AV} {K K' : AV → Heap → Prop} (hk : ∀ a h, K a h → K' a h) (x : frz1 h a K) : frz1 h a K' := by
 unfold frz1 at *
 split at x
 ·split at x
  ·exact ⟨x.1, x.2.1, hk _ _ x.2.2⟩
  ·exact x
 ·exact hk _ _ x
theorem frzCells_mono : ∀ {cs : List AV} {h : Heap} {K K' : List AV → Heap → Prop}, (∀ a h, K a h → K' a h) → frzCells h cs K → frzCells h cs K'
 | [], _, _, _, hk, x => hk _ _ x
 | _ :: _, _, _, _, hk, x => frz1_mono (fun _ _ y => frzCells_mono (fun _ _ z => hk _ _ z) y) x
theorem frzA_mono {h : Heap} {a : AV} {K K' : AV → Heap → Prop} (hk : ∀ a h, K a h → K' a h) (x : frzA h a K) : frzA h a K' := by
 unfold frzA at *
 split at x
 ·exact frzCells_mono (fun _ _ y => hk _ _ y) x
 ·exact frz1_mono hk x
theorem frzAs_mono : ∀ {cs : List AV} {h : Heap} {K K' : List AV → Heap → Prop}, (∀ a h, K a h → K' a h) → frzAs h cs K → frzAs h cs K'
 | [], _, _, _, hk, x => hk _ _ x
 | _ :: _, _, _, _, hk, x => frzA_mono (fun _ _ y => frzAs_mono (fun _ _ z => hk _ _ z) y) x
theorem frzK_mono {h : Heap} {a : AV} {K K' : AV → Heap → Prop} (hk : ∀ a h, K a h → K' a h) (x : frzK h a K) : frzK h a K' := by
 unfold frzK at *
 split at x
 ·exact frzAs_mono (fun _ _ y => hk _ _ y) x
 ·exact frzA_mono hk x
theorem PCalls.mono {P : Program} {f : FuncId} {args : List AV} {K K' : AV → Prop} (hc : PCalls P f args K) (hk : ∀ r, K r → K' r) : PCalls P f args K' :=
 ⟨ACalls.mono hc.out fun _ _ x => frzK_mono (fun _ _ y => ⟨y.1, hk _ y.2⟩) x⟩
theorem Sim.pure {σ : Sg} {h : Heap} {w : World} (s : Sim σ h w) : Sim σ.pure Heap.nil w :=
 ⟨s.fm, fun i o ho => (Heap.nil_some ho).elim, fun i j oi oj b hi => (Heap.nil_some hi).elim, ⟨0, fun _ _ _ => rfl⟩, fun b o x => by simp at x⟩
theorem PCalls.use {P : Program} {f : FuncId} {args : List AV} {K : AV → Prop} (hc : PCalls P f args K) {σ : Sg} {h : Heap} {w : World} (s : Sim σ h w) {vs : Array Value} (hv : VRels σ args vs.toList) :
  Calls P f vs w fun e w' => ∃ v, e = .returned v ∧ ∃ σ' r, K r ∧ Mv σ h w σ' h w' ∧ VRel σ' r v := by
 have s0 : Sim σ Heap.nil w := (s.forget (h' := Heap.nil) fun i o x => (Heap.nil_some x).elim).sim
 refine (hc.out.use σ w vs s0 hv).mono ?_
 rintro e w' ⟨v, rfl, σ0, h0, r0, hk, m0, v0⟩
 obtain ⟨σ1, h1, r1, m1, v1, hp1, k1⟩ := frzK_sound m0.sim v0 hk
 have m := m0.trans m1
 let σ' : Sg := { ρ := σ.ρ, FM := σ1.FM, RM := σ.RM }
 have hle : Sg.Le σ σ' := ⟨fun _ _ _ x => x, fun b cs x => m.le.FM b cs x, fun _ _ x => x⟩
 have nl : ∀ b, ¬ Live σ Heap.nil b := fun b ⟨i, o, ho, _⟩ => Heap.nil_some ho
 have hblock : ∀ b, b < w.heap.size → w'.heap[b]? = w.heap[b]? := fun b hb => m.block b hb (nl b)
 have hfm : ∀ b, Live σ h b → σ1.FM b = none := fun b hb => by
  cases hf : σ1.FM b with
  | none => rfl
  | some cs =>
   rcases m.new b (by rw [hf]; simp) with x | x | x
   ·exact absurd (Live.noFM s hb) x
   ·exact absurd x (nl b)
   ·have := Live.lt s hb; omega
 refine ⟨v, rfl, σ', r1, k1, ⟨hle, ⟨m.sim.fm, fun i o ho => ?_, fun i j oi oj b hi hj bi bj => s.apart i j oi oj b hi hj bi bj, s.fresh, fun b o x => let ⟨r1, r2⟩ := s.rm b o x; ⟨by rw [hblock b (Array.getElem?_eq_some_iff.1 r1).1]; exact r1, r2⟩⟩, m.os, m.tape, m.output, m.size, fun b hb _ => hblock b hb, fun b hb => .inl hb, fun b hb => ?_⟩, ?_⟩
 ·exact (s.obj i o ho).keep hle fun b hb => ⟨hblock b (Live.lt s ⟨i, o, ho, hb⟩), hfm b ⟨i, o, ho, hb⟩⟩
 ·rcases m.new b hb with x | x | x
  ·exact .inl x
  ·exact absurd x (nl b)
  ·exact .inr (.inr x)
 ·exact (v1.isPure2 hp1).mono ⟨fun _ _ _ x => by simp at x, fun _ _ x => x, fun _ _ x => by simp at x⟩
end Go.Ab

namespace Go.Ab
inductive AE where
 | normal
 | exit (id : Nat)
 | ret
def AE.toExit : AE → Exit
 | .normal => .normal
 | .exit id => .exit id
 | .ret => .ret
structure Yl where
 l : Nat
 rc : Loop
 fr : List AV
structure Ctx where
 P : Program
 ti : TI
 fnok : FuncId → Bool
 pureFn : FuncId → Bool
 hFn : FuncId → Bool := fun _ => false
 xFn : FuncId → Bool := fun _ => false
 yl : Option Yl := none
 inR : Bool := false
 gd : Bool := false
def Ctx.g (C : Ctx) (b : Bool) : Ctx := { P := C.P, ti := C.ti, fnok := C.fnok, pureFn := C.pureFn, hFn := C.hFn, xFn := C.xFn, yl := C.yl, inR := C.inR, gd := b }
def Ctx.round (C : Ctx) : Ctx := { P := C.P, ti := C.ti, fnok := C.fnok, pureFn := C.pureFn, hFn := C.hFn, xFn := C.xFn, yl := none, inR := true }
def FR (rd : Option Nat) : Fence := { fn := fun _ => True, depth := none, alive := false, round := rd }
theorem callsFR {rd : Option Nat} {n : Nat} {P : Program} {f : FuncId} {args : Array Value} {w : World} {R : Ending → World → Prop} (h : Calls P f args w R) : CallsIn (FR rd) n P f args w R := (callsIn_wide (n := n)).2 h
theorem callsFR' {rd : Option Nat} {n : Nat} {P : Program} {f : FuncId} {args : Array Value} {w : World} {R : Ending → World → Prop} (h : CallsIn (FR rd) n P f args w R) : Calls P f args w R := (callsIn_wide (n := n)).1 h
def markD (D : Nat) : Deferred := { target := .collected D, args := #[] }
def DfOk (B : Nat) (σ : Sg) (ds : List Deferred) : Prop := ∃ l : List Nat, ds = l.map markD ∧ l.Nodup ∧ ∀ D ∈ l, B ≤ D ∧ σ.RM D = some (.deferred (some []))
theorem DfOk.nil {B : Nat} {σ : Sg} : DfOk B σ [] := ⟨[], rfl, .nil, fun d h => by cases h⟩
theorem DfOk.mono {B : Nat} {σ τ : Sg} {ds : List Deferred} (h : DfOk B σ ds) (l : Sg.Le σ τ) : DfOk B τ ds :=
 let ⟨x, a, b, c⟩ := h; ⟨x, a, b, fun D hd => ⟨(c D hd).1, l.RM _ _ (c D hd).2⟩⟩
def YlOk (y : Yl) (σ : Sg) : Prop := σ.RM y.l = some (.loop y.rc) ∧ y.rc.state = .ready ∧ y.rc.pending = none ∧ VRels σ y.fr y.rc.tmps.toList
def YOk (C : Ctx) (σ : Sg) : Prop := ∀ y, C.yl = some y → YlOk y σ
theorem YlOk.mono {y : Yl} {σ τ : Sg} (h : YlOk y σ) (l : Sg.Le σ τ) : YlOk y τ := ⟨l.RM _ _ h.1, h.2.1, h.2.2.1, h.2.2.2.mono l⟩
theorem YOk.mono {C : Ctx} {σ τ : Sg} (h : YOk C σ) (l : Sg.Le σ τ) : YOk C τ := fun y e => (h y e).mono l
theorem YOk.none {C : Ctx} {σ : Sg} (h : C.yl = Option.none) : YOk C σ := fun y e => by rw [h] at e; cases e
structure WK (C : Ctx) (c : Code) (fr : List AV) (h : Heap) (K : AE → List AV → Heap → Prop) : Prop where
 use : ∀ (rd : Option Nat) (B : Nat) (σ : Sg) (w : World) (a : Act) (Q : Exit → Act → World → Prop), (C.inR = false → rd = none) → YOk C σ → B ≤ w.heap.size → Sim σ h w → VRels σ fr a.tmps.toList → DfOk B σ a.defers →
  (∀ e fr' h' σ' a' w', K e fr' h' → Mv σ h w σ' h' w' → VRels σ' fr' a'.tmps.toList → DfOk B σ' a'.defers → Q e.toExit a' w') → c.wpIn (FR rd) 0 C.P Q a w
theorem WK.mono {C : Ctx} {c : Code} {fr : List AV} {h : Heap} {K K' : AE → List AV → Heap → Prop} (x : WK C c fr h K) (hk : ∀ e fr h, K e fr h → K' e fr h) : WK C c fr h K' :=
 ⟨fun rd B σ w a Q h1 h2 h3 h4 h5 h6 hQ => x.use rd B σ w a Q h1 h2 h3 h4 h5 h6 fun e fr' h' σ' a' w' k => hQ e fr' h' σ' a' w' (hk _ _ _ k)⟩
def bindP : List Tmp → List AV → List AV → List AV
 | p :: ps, v :: vs, fr => bindP ps vs (fr.set p v)
 | _, _, fr => fr
theorem bindP_rel {σ : Sg} : ∀ (ps : List Tmp) (as : List AV) (vs : List Value) (fr : List AV) (tmps : Array Value), VRels σ as vs → VRels σ fr tmps.toList →
  VRels σ (bindP ps as fr) ((ps.zip vs).foldl (fun tmps (p : Tmp × Value) => tmps.setIfInBounds p.1 p.2) tmps).toList := by
 intro ps
 induction ps with
 | nil => intro as vs fr tmps _ h; cases as <;> cases vs <;> exact h
 | cons p ps ih =>
  intro as vs fr tmps ha h
  match as, vs, ha with
  | [], [], _ => exact h
  | [], _ :: _, ha => exact absurd ha.1 (by simp)
  | _ :: _, [], ha => exact absurd ha.1 (by simp)
  | a :: as, v :: vs, ha =>
   have ht : VRels σ as vs := ⟨by have := ha.1; simpa using this, fun i b u x y => ha.2 (i + 1) b u (by simpa using x) (by simpa using y)⟩
   refine ih as vs _ _ ht ⟨by simpa using h.1, fun i c u x y => ?_⟩
   simp only [Array.toList_setIfInBounds] at x y
   by_cases hi : i = p
   ·subst hi
    rw [List.getElem?_set_self'] at x y
    cases hx : fr[i]? with
    | none => simp [hx] at x
    | some _ =>
     cases hy : tmps.toList[i]? with
     | none => simp only [hy] at y; cases y
     | some _ =>
      simp [hx] at x
      simp only [hy] at y
      cases y
      subst x
      exact ha.2 0 _ _ rfl rfl
   ·rw [List.getElem?_set_ne (Ne.symm hi)] at x y
    exact h.2 i c u x y
def RoundK (C : Ctx) (assign body : Code) (fr : List AV) (h : Heap) (K : Heap → Prop) : Prop :=
 WK C.round assign fr h fun e fr h => match e with
  | .normal => WK C.round body fr h fun e _ h => match e with
   | .normal => K h
   | .exit _ => False
   | .ret => False
  | .exit _ => False
  | .ret => False
theorem RoundK.mono {C : Ctx} {assign body : Code} {fr : List AV} {h : Heap} {K K' : Heap → Prop} (hk : ∀ h, K h → K' h) (x : RoundK C assign body fr h K) : RoundK C assign body fr h K' := by
 refine WK.mono x fun e fr h y => ?_
 cases e with
 | normal => exact WK.mono y fun e fr h z => by cases e <;> first | exact hk _ z | exact z
 | _ => exact y
def yieldK (C : Ctx) (ev : Operand → AV) (c : Call) (h : Heap) (K : AV → Heap → Prop) : Prop :=
 match c.callee with
 | .value fo => match ev fo with
  | .fn (.yield l) [] [] => match C.yl with
   | some y => l = y.l ∧ c.args.size = y.rc.params.size ∧ RoundK C y.rc.assign y.rc.body (bindP y.rc.params.toList (c.args.toList.map ev) y.fr) h (fun h => K (.bool true) h)
   | none => False
  | _ => False
 | _ => False
theorem yieldK_mono {C : Ctx} {ev : Operand → AV} {c : Call} {h0 : Heap} {K K' : AV → Heap → Prop} (hk : ∀ v h, K v h → K' v h) (h : yieldK C ev c h0 K) : yieldK C ev c h0 K' := by
 unfold yieldK at h ⊢
 split at h
 ·split at h
  ·split at h
   ·exact ⟨h.1, h.2.1, h.2.2.mono fun _ => hk _ _⟩
   ·exact h
  ·exact h
 ·exact h
theorem round_sound {C : Ctx} {y : Yl} {σ : Sg} {h : Heap} {w : World} {rd : Option Nat} (hy : YlOk y σ) (s : Sim σ h w) {as : List AV} {vs : Array Value} (hv : VRels σ as vs.toList) {K : Heap → Prop}
  (hk : RoundK C y.rc.assign y.rc.body (bindP y.rc.params.toList as y.fr) h K) {R : Ending → World → Prop}
  (hR : ∀ h' σ' w', K h' → Mv σ h w σ' h' w' → R (.returned (.bool true)) w') :
  RoundIn (FR rd) (0 - 1) C.P y.l y.rc.fn ((y.rc.params.zip vs).foldl (fun tmps (t, a) => tmps.setIfInBounds t a) y.rc.tmps) y.rc.assign y.rc.body w R := by
 obtain ⟨l, rc, fr⟩ := y
 obtain ⟨y1, y2, y3, y4⟩ := hy
 simp only at y1 y2 y3 y4 hk ⊢
 refine roundIn_of_wpIn trivial ?_
 obtain ⟨hl, _⟩ := s.rm _ _ y1
 have hlt : l < w.heap.size := (Array.getElem?_eq_some_iff.1 hl).1
 -- the world without the fact on the record
 let Rb : Nat → Option Obj := fun b => if b = l then none else σ.RM b
 have sb : Sim (σ.withRM Rb) h w := s.withRM Rb (fun _ _ => rfl) (fun _ _ => rfl) fun b o x => by
  have x : (if b = l then none else σ.RM b) = some o := x
  split at x
  ·cases x
  ·exact s.rm b o x
 have hlow : (σ.withRM Rb).RM l = none := by show (if l = l then none else σ.RM l) = none; simp
 have hfr : VRels (σ.withRM Rb) (bindP rc.params.toList as fr) ((rc.params.zip vs).foldl (fun tmps (t, a) => tmps.setIfInBounds t a) rc.tmps).toList := by
  have := bindP_rel rc.params.toList as vs.toList fr rc.tmps hv y4
  have e : ((rc.params.zip vs).foldl (fun tmps (t, a) => tmps.setIfInBounds t a) rc.tmps) = ((rc.params.toList.zip vs.toList).foldl (fun tmps (p : Tmp × Value) => tmps.setIfInBounds p.1 p.2) rc.tmps) := by
   rw [← Array.foldl_toList, Array.toList_zip]
  rw [e]
  exact this.mono0 (σ.withRM_le0 Rb)
 refine hk.use (some l) w.heap.size (σ.withRM Rb) w _ _ (fun e => by cases e) (YOk.none rfl) (Nat.le_refl _) sb hfr .nil fun e fr1 h1 σ1 a1 w1 k1 m1 v1 d1 => ?_
 cases e with
 | exit id => exact k1.elim
 | ret => exact k1.elim
 | normal =>
 have hl1 : w1.heap[l]? = some (.loop rc) := by
  rw [m1.block l hlt (fun x => by have := Live.noRM s (live_withRM.1 x); rw [y1] at this; cases this)]
  exact hl
 have hs1 := m1.size
 have nl1 : ¬ Live σ1 h1 l := Live.notRec m1.sim hl1 rfl
 refine ⟨_, run_beginRound hl1 y2, ?_⟩
 let R1 : Nat → Option Obj := fun b => if b = l then none else σ1.RM b
 have oth1 : ∀ b, b ≠ l → (w1.putObj l (.loop { rc with state := .busy })).heap[b]? = w1.heap[b]? := fun b hb => World.putObj_heap_other hb
 have s1 : Sim (σ1.withRM R1) h1 (w1.putObj l (.loop { rc with state := .busy })) := m1.sim.withRM R1
  (fun b hb => oth1 b (by rintro rfl; exact nl1 hb)) (fun b hb => oth1 b (by rintro rfl; exact hb (m1.sim.notFM hl1 rfl))) fun b o x => by
   have x : (if b = l then none else σ1.RM b) = some o := x
   split at x
   ·cases x
   ·rename_i hb; rw [oth1 b hb]; exact m1.sim.rm b o x
 refine k1.use (some l) w.heap.size (σ1.withRM R1) _ a1 _ (fun e => by cases e) (YOk.none rfl) (by rw [World.putObj_size]; omega) s1 (v1.mono0 (σ1.withRM_le0 R1)) ?_ fun e fr2 h2 σ2 a2 w2 k2 m2 v2 d2 => ?_
 ·obtain ⟨ls, e1, e2, e3⟩ := d1
  refine ⟨ls, e1, e2, fun D hD => ⟨(e3 D hD).1, ?_⟩⟩
  have := (e3 D hD).1
  show (if D = l then none else σ1.RM D) = _
  rw [if_neg (by omega)]
  exact (e3 D hD).2
 cases e with
 | exit id => exact k2.elim
 | ret => exact k2.elim
 | normal =>
 have hlb : (w1.putObj l (.loop { rc with state := .busy })).heap[l]? = some (.loop { rc with state := .busy }) := World.putObj_heap_same (by omega)
 have hsz : (w1.putObj l (.loop { rc with state := .busy })).heap.size = w1.heap.size := World.putObj_size
 have hl2 : w2.heap[l]? = some (.loop { rc with state := .busy }) := by
  rw [m2.block l (by omega) (fun x => nl1 (live_withRM.1 x))]
  exact hlb
 have hs2 := m2.size
 have nl2 : ¬ Live σ2 h2 l := Live.notRec m2.sim hl2 rfl
 have hend := run_endRound (P := C.P) none hl2
 have erc : ({ rc with state := if (none : Option Code).isNone = true then .ready else .done, pending := none } : Loop) = rc := by
  obtain ⟨st, pd, _, _, _, _, _, _⟩ := rc
  simp only at y2 y3
  subst y2
  subst y3
  rfl
 refine ⟨_, _, hend, ?_⟩
 have erc' : ({ ({ rc with state := .busy } : Loop) with state := if (none : Option Code).isNone = true then .ready else .done, pending := none } : Loop) = rc := erc
 rw [erc']
 let R2 : Nat → Option Obj := fun b => if b = l then some (.loop rc) else σ2.RM b
 have oth2 : ∀ b, b ≠ l → (w2.putObj l (.loop rc)).heap[b]? = w2.heap[b]? := fun b hb => World.putObj_heap_other hb
 have s2 : Sim (σ2.withRM R2) h2 (w2.putObj l (.loop rc)) := m2.sim.withRM R2
  (fun b hb => oth2 b (by rintro rfl; exact nl2 hb)) (fun b hb => oth2 b (by rintro rfl; exact hb (m2.sim.notFM hl2 rfl))) fun b o x => by
   have x : (if b = l then some (.loop rc) else σ2.RM b) = some o := x
   by_cases hb : b = l
   ·rw [if_pos hb] at x
    obtain rfl := Option.some.inj x
    rw [hb]
    exact ⟨World.putObj_heap_same (by omega), rfl⟩
   ·rw [if_neg hb] at x
    rw [oth2 b hb]; exact m2.sim.rm b o x
 refine hR h2 (σ2.withRM R2) _ k2 ⟨⟨fun _ _ _ x => m2.le.ρ _ _ _ (m1.le.ρ _ _ _ x), fun _ _ x => m2.le.FM _ _ (m1.le.FM _ _ x), fun b o x => ?_⟩, s2, m2.os.trans m1.os, m2.tape.trans m1.tape, m2.output.trans m1.output, by rw [World.putObj_size]; omega, fun b hb hnl => ?_, fun b hb => ?_, fun b hb => ?_⟩
 ·show (if b = l then some (.loop rc) else σ2.RM b) = some o
  split
  ·rename_i e; subst e; rw [y1] at x; exact x
  ·rename_i e
   have x1 : (σ.withRM Rb).RM b = some o := by show (if b = l then none else σ.RM b) = some o; rw [if_neg e]; exact x
   have x2 : (σ1.withRM R1).RM b = some o := by show (if b = l then none else σ1.RM b) = some o; rw [if_neg e]; exact m1.le.RM _ _ x1
   exact m2.le.RM _ _ x2
 ·by_cases e : b = l
  ·subst e; rw [World.putObj_heap_same (by omega), hl]
  ·rw [oth2 b e, m2.block b (by omega) (fun x => ?_), oth1 b e, m1.block b hb hnl]
   rcases m1.live b (live_withRM.1 x) with h3 | h3
   ·exact hnl (live_withRM.1 h3)
   ·omega
 ·rcases m2.live b (live_withRM.1 hb) with h3 | h3
  ·rcases m1.live b (live_withRM.1 h3) with h4 | h4
   ·exact .inl (live_withRM.1 h4)
   ·exact .inr h4
  ·exact .inr (by omega)
 ·rcases m2.new b hb with h3 | h3 | h3
  ·rcases m1.new b h3 with h4 | h4 | h4
   ·exact .inl h4
   ·exact .inr (.inl (live_withRM.1 h4))
   ·exact .inr (.inr h4)
  ·rcases m1.live b (live_withRM.1 h3) with h4 | h4
   ·exact .inr (.inl (live_withRM.1 h4))
   ·exact .inr (.inr h4)
  ·exact .inr (.inr (by omega))
end Go.Ab

namespace Go.Ab
def AV.sh0 (B E : Nat) : AV → AV
 | .optr (.d k) ep sz i off => .optr (.d (B + k)) (ep + E) sz i off
 | .oslc (.d k) ep sz off len lim => .oslc (.d (B + k)) (ep + E) sz off len lim
 | .mp (.d k) ep => .mp (.d (B + k)) (ep + E)
 | .optr (.s _) _ _ _ _ | .oslc (.s _) _ _ _ _ _ | .mp (.s _) _ | .agg _ | .tup _ | .fn _ _ _ => .u
 | a => a
def AV.sh1 (B E : Nat) : AV → AV
 | .fn f a b => .fn f (a.map (AV.sh0 B E)) (b.map (AV.sh0 B E))
 | a => a.sh0 B E
def AV.shA (B E : Nat) : AV → AV
 | .agg cs => .agg (cs.map (AV.sh1 B E))
 | a => a.sh1 B E
def AV.sh (B E : Nat) : AV → AV
 | .tup cs => .tup (cs.map (AV.shA B E))
 | a => a.shA B E
def AObj.sh (B E : Nat) : AObj → AObj
 | .vec ep rows => .vec (ep + E) (rows.map fun r => r.map (AV.sh1 B E))
 | .map ep es => .map (ep + E) (es.map fun p => (p.1.sh1 B E, p.2.sh1 B E))
 | .hole => .hole
section
variable {σ1 σ' : Sg} {B E : Nat}
theorem VRel.sh0 (hρ : ∀ k ep pl, σ1.ρ (.d k) ep = some pl → σ'.ρ (.d (B + k)) (ep + E) = some pl) (hF : ∀ b cs, σ1.FM b = some cs → σ'.FM b = some cs) {a : AV} {v : Value} (h : VRel σ1 a v) : VRel σ' (a.sh0 B E) v := by
 have lp : Sg.Le0 σ1.pure σ'.pure := ⟨fun _ _ _ x => by simp at x, hF⟩
 cases h with
 | int => exact .int
 | bool => exact .bool
 | str => exact .str
 | nilp => exact .nilp
 | nils => exact .nils
 | nilm => exact .nilm
 | nilf => exact .nilf
 | @optr _ id _ _ _ _ _ _ _ _ h => cases id with
  | s n => exact .u
  | d k => exact .optr (hρ _ _ _ h)
 | lptr g hw hc ho hv => exact .lptr g hw (fun i j c x => let ⟨cs, a, b⟩ := hc i j c x; ⟨cs, hF _ _ a, b⟩) ho (fun i j c x => (hv i j c x).mono0 lp)
 | @oslc _ id _ _ _ _ _ _ _ _ _ _ h h1 h2 h3 h4 h5 => cases id with
  | s n => exact .u
  | d k => exact .oslc (hρ _ _ _ h) h1 h2 h3 h4 h5
 | @onil _ id _ _ _ h => cases id with
  | s n => exact .u
  | d k => exact .onil (hρ _ _ _ h)
 | @onilz _ id _ _ _ _ h => cases id with
  | s n => exact .u
  | d k => exact .onilz (hρ _ _ _ h)
 | lslc g hw hc ho hv h1 h3 h5 => exact .lslc g hw (fun i j c x => let ⟨cs, a, b⟩ := hc i j c x; ⟨cs, hF _ _ a, b⟩) ho (fun i j c x => (hv i j c x).mono0 lp) h1 h3 h5
 | lnil => exact .lnil
 | @oz _ id _ _ _ _ _ _ _ _ _ h h1 h2 => cases id with
  | s n => exact .u
  | d k => exact .oz (hρ _ _ _ h) h1 h2
 | lz => exact .lz
 | @mp _ id _ _ _ _ _ _ h => cases id with
  | s n => exact .u
  | d k => exact .mp (hρ _ _ _ h)
 | fn => exact .u
 | agg => exact .u
 | tup => exact .u
 | u => exact .u
theorem VRel.sh1 (hρ : ∀ k ep pl, σ1.ρ (.d k) ep = some pl → σ'.ρ (.d (B + k)) (ep + E) = some pl) (hF : ∀ b cs, σ1.FM b = some cs → σ'.FM b = some cs) {a : AV} {v : Value} (h : VRel σ1 a v) : VRel σ' (a.sh1 B E) v := by
 have hh := h
 cases h with
 | fn l1 l2 v1 v2 =>
  refine .fn (by simpa using l1) (by simpa using l2) (fun i c v x y => ?_) (fun i c v x y => ?_)
  ·simp only [List.getElem?_map, Option.map_eq_some_iff] at x
   obtain ⟨c', x, rfl⟩ := x
   exact (v1 i c' v x y).sh0 hρ hF
  ·simp only [List.getElem?_map, Option.map_eq_some_iff] at x
   obtain ⟨c', x, rfl⟩ := x
   exact (v2 i c' v x y).sh0 hρ hF
 | _ => exact VRel.sh0 hρ hF hh
theorem VRel.shA (hρ : ∀ k ep pl, σ1.ρ (.d k) ep = some pl → σ'.ρ (.d (B + k)) (ep + E) = some pl) (hF : ∀ b cs, σ1.FM b = some cs → σ'.FM b = some cs) {a : AV} {v : Value} (h : VRel σ1 a v) : VRel σ' (a.shA B E) v := by
 have hh := h
 cases h with
 | agg l o w =>
  refine .agg (by simpa using l) o (fun i c v x y => ?_)
  simp only [List.getElem?_map, Option.map_eq_some_iff] at x
  obtain ⟨c', x, rfl⟩ := x
  exact (w i c' v x y).sh1 hρ hF
 | fn l1 l2 v1 v2 => exact VRel.sh1 hρ hF (.fn l1 l2 v1 v2)
 | _ => exact VRel.sh1 hρ hF hh
theorem VRel.sh (hρ : ∀ k ep pl, σ1.ρ (.d k) ep = some pl → σ'.ρ (.d (B + k)) (ep + E) = some pl) (hF : ∀ b cs, σ1.FM b = some cs → σ'.FM b = some cs) {a : AV} {v : Value} (h : VRel σ1 a v) : VRel σ' (a.sh B E) v := by
 have hh := h
 cases h with
 | tup l w =>
  refine .tup (by simpa using l) (fun i c v x y => ?_)
  simp only [List.getElem?_map, Option.map_eq_some_iff] at x
  obtain ⟨c', x, rfl⟩ := x
  exact (w i c' v x y).shA hρ hF
 | fn l1 l2 v1 v2 => exact VRel.shA hρ hF (.fn l1 l2 v1 v2)
 | agg l o w => exact VRel.shA hρ hF (.agg l o w)
 | _ => exact VRel.shA hρ hF hh
theorem cellAt_map {rows : List (List AV)} {f : AV → AV} {i j : Nat} {c : AV} (h : cellAt (rows.map fun r => r.map f) i j = some c) : ∃ c', cellAt rows i j = some c' ∧ c = f c' := by
 unfold cellAt at h ⊢
 rw [List.getElem?_map] at h
 cases hr : rows[i]? with
 | none => rw [hr] at h; cases h
 | some r =>
  rw [hr] at h
  have h : (r.map f)[j]? = some c := h
  rw [List.getElem?_map] at h
  cases hc : r[j]? with
  | none => rw [hc] at h; cases h
  | some c' => rw [hc] at h; exact ⟨c', hc, (Option.some.inj h).symm⟩
theorem ObjOk.sh (hρ : ∀ k ep pl, σ1.ρ (.d k) ep = some pl → σ'.ρ (.d (B + k)) (ep + E) = some pl) (hF : ∀ b, σ'.FM b = σ1.FM b) {w : World} {k : Nat} {o : AObj} (h : ObjOk σ1 w (.d k) o) : ObjOk σ' w (.d (B + k)) (o.sh B E) := by
 have hF' : ∀ b cs, σ1.FM b = some cs → σ'.FM b = some cs := fun b cs x => by rw [hF]; exact x
 cases o with
 | hole => trivial
 | vec ep rows =>
  rcases h with ⟨h1, h2⟩ | ⟨blk, st, sz, n, size, cs, T, h1, h2, h3, h4, h5, h6, h7, h8⟩
  ·exact .inl ⟨by rw [h1]; rfl, hρ _ _ _ h2⟩
  ·refine .inr ⟨blk, st, sz, n, size, cs, T, hρ _ _ _ h1, h2, h3, by simpa using h4, h5, by rw [hF]; exact h6, fun i row hr => ?_, fun i j c x => ?_⟩
   ·rw [List.getElem?_map, Option.map_eq_some_iff] at hr
    obtain ⟨r, hr, rfl⟩ := hr
    simpa using h7 i r hr
   ·obtain ⟨c', x', rfl⟩ := cellAt_map x
    obtain ⟨v, a, b, d⟩ := h8 i j c' x'
    exact ⟨v, a, b, d.sh1 hρ hF'⟩
 | map ep es =>
  obtain ⟨blk, st, sz, n, size, ents, clock, h1, h2, h3, h4, h5⟩ := h
  refine ⟨blk, st, sz, n, size, ents, clock, hρ _ _ _ h1, h2, by rw [hF]; exact h3, by simpa using h4, fun i k v e x y => ?_⟩
  rw [List.getElem?_map, Option.map_eq_some_iff] at x
  obtain ⟨⟨k', v'⟩, x, e1⟩ := x
  cases e1
  obtain ⟨a, b⟩ := h5 i k' v' e x y
  exact ⟨a.sh1 hρ hF', b.sh1 hρ hF'⟩
theorem blk_sh (hρ : ∀ k ep, σ'.ρ (.d (B + k)) (ep + E) = σ1.ρ (.d k) ep) {k : Nat} {o : AObj} : (o.sh B E).blk σ' (.d (B + k)) = o.blk σ1 (.d k) := by
 cases o with
 | hole => rfl
 | vec ep rows => simp [AObj.sh, AObj.blk, hρ]
 | map ep es => simp [AObj.sh, AObj.blk, hρ]
end
theorem ACalls.fetch {P : Program} {f : FuncId} {args : List AV} {K : AV → Heap → Prop} (hc : ACalls P f args Heap.nil K) (hp : args.all AV.isPure = true) {σ : Sg} {h : Heap} {w : World} (s : Sim σ h w) {vs : Array Value} (hv : VRels σ args vs.toList) :
  Calls P f vs w fun e w' => ∃ v, e = .returned v ∧ ∃ E σ' r h', K r h' ∧ Mv σ h w σ' ⟨h.st, h.dy ++ h'.dy.map (AObj.sh h.dy.length E)⟩ w' ∧ VRel σ' (r.sh h.dy.length E) v := by
 refine (hc.use σ.pure w vs s.pure (hv.pure hp)).mono ?_
 rintro e w' ⟨v, rfl, σ1, h1, r, hk, m, hr⟩
 obtain ⟨E, hE⟩ := s.fresh
 let σ' : Sg := { ρ := fun i e => match i with
   | .s n => σ.ρ (.s n) e
   | .d n => if h.dy.length ≤ n ∧ E ≤ e then σ1.ρ (.d (n - h.dy.length)) (e - E) else σ.ρ (.d n) e, FM := σ1.FM, RM := σ.RM }
 have hρ : ∀ k ep, σ'.ρ (.d (h.dy.length + k)) (ep + E) = σ1.ρ (.d k) ep := fun k ep => by
  show (if h.dy.length ≤ h.dy.length + k ∧ E ≤ ep + E then σ1.ρ (.d (h.dy.length + k - h.dy.length)) (ep + E - E) else σ.ρ (.d (h.dy.length + k)) (ep + E)) = _
  rw [if_pos ⟨by omega, by omega⟩, Nat.add_sub_cancel_left, Nat.add_sub_cancel]
 have hle : Sg.Le σ σ' := by
  refine ⟨fun id ep pl x => ?_, fun b cs x => m.le.FM b cs x, fun _ _ x => x⟩
  cases id with
  | s n => exact x
  | d n =>
   show (if h.dy.length ≤ n ∧ E ≤ ep then σ1.ρ (.d (n - h.dy.length)) (ep - E) else σ.ρ (.d n) ep) = some pl
   rw [if_neg]
   ·exact x
   ·rintro ⟨_, h2⟩
    rw [hE _ _ h2] at x
    cases x
 have nl : ∀ b, ¬ Live σ.pure Heap.nil b := fun b ⟨i, o, ho, _⟩ => Heap.nil_some ho
 have hblock : ∀ b, b < w.heap.size → w'.heap[b]? = w.heap[b]? := fun b hb => m.block b hb (nl b)
 have hfm : ∀ b, Live σ h b → σ1.FM b = none := fun b hb => by
  cases hf : σ1.FM b with
  | none => rfl
  | some cs =>
   rcases m.new b (by rw [hf]; simp) with x | x | x
   ·exact absurd (Live.noFM s hb) x
   ·exact absurd x (nl b)
   ·have := Live.lt s hb; omega
 have hlive1 : ∀ b, Live σ1 h1 b → w.heap.size ≤ b := fun b hb => (m.live b hb).resolve_left (nl b)
 -- objects of the joined heap
 have obj : ∀ (i : Id) (o : AObj), (⟨h.st, h.dy ++ h1.dy.map (AObj.sh h.dy.length E)⟩ : Heap)[i]? = some o →
   h[i]? = some o ∨ ∃ k o1, i = .d (h.dy.length + k) ∧ h1[Id.d k]? = some o1 ∧ o = o1.sh h.dy.length E := by
  intro i o ho
  cases i with
  | s n => exact .inl ho
  | d n =>
   have ho : (h.dy ++ h1.dy.map (AObj.sh h.dy.length E))[n]? = some o := ho
   by_cases hn : n < h.dy.length
   ·rw [List.getElem?_append_left hn] at ho; exact .inl ho
   ·rw [List.getElem?_append_right (by omega), List.getElem?_map, Option.map_eq_some_iff] at ho
    obtain ⟨o1, x, rfl⟩ := ho
    exact .inr ⟨n - h.dy.length, o1, by rw [show h.dy.length + (n - h.dy.length) = n by omega], x, rfl⟩
 have blk_old : ∀ (i : Id) (o : AObj), h[i]? = some o → o.blk σ' i = o.blk σ i := fun i o ho => blk_le (s.obj i o ho) hle
 have hρ' : ∀ k ep pl, σ1.ρ (.d k) ep = some pl → σ'.ρ (.d (h.dy.length + k)) (ep + E) = some pl := fun k ep pl x => by rw [hρ]; exact x
 have hvr : VRel σ' (r.sh h.dy.length E) v := hr.sh hρ' (fun _ _ x => x)
 refine ⟨v, rfl, E, σ', r, h1, hk, ⟨hle, ⟨m.sim.fm, fun i o ho => ?_, fun i j oi oj b hi hj bi bj => ?_, ?_, fun b o x => let ⟨r1, r2⟩ := s.rm b o x; ⟨by rw [hblock b (Array.getElem?_eq_some_iff.1 r1).1]; exact r1, r2⟩⟩, m.os, m.tape, m.output, m.size, fun b hb _ => hblock b hb, fun b hb => ?_, fun b hb => ?_⟩, hvr⟩
 ·rcases obj i o ho with h2 | ⟨k, o1, rfl, h2, rfl⟩
  ·exact (s.obj i o h2).keep hle fun b hb => ⟨hblock b (Live.lt s ⟨i, o, h2, hb⟩), hfm b ⟨i, o, h2, hb⟩⟩
  ·exact (m.sim.obj _ _ h2).sh hρ' fun _ => rfl
 ·rcases obj i oi hi with h2 | ⟨k, o1, rfl, h2, rfl⟩ <;> rcases obj j oj hj with h3 | ⟨k', o2, rfl, h3, rfl⟩
  ·rw [blk_old i oi h2] at bi
   rw [blk_old j oj h3] at bj
   exact s.apart i j oi oj b h2 h3 bi bj
  ·rw [blk_old i oi h2] at bi
   rw [blk_sh hρ] at bj
   have l1 := Live.lt s ⟨i, oi, h2, bi⟩
   have l2 := hlive1 b ⟨_, o2, h3, bj⟩
   omega
  ·rw [blk_sh hρ] at bi
   rw [blk_old j oj h3] at bj
   have l1 := Live.lt s ⟨j, oj, h3, bj⟩
   have l2 := hlive1 b ⟨_, o1, h2, bi⟩
   omega
  ·rw [blk_sh hρ] at bi bj
   have := m.sim.apart _ _ _ _ b h2 h3 bi bj
   cases this
   rfl
 ·obtain ⟨E1, hE1⟩ := m.sim.fresh
  refine ⟨E + E1, fun id ep hep => ?_⟩
  cases id with
  | s n => exact hE _ _ (by omega)
  | d n =>
   show (if h.dy.length ≤ n ∧ E ≤ ep then σ1.ρ (.d (n - h.dy.length)) (ep - E) else σ.ρ (.d n) ep) = none
   split
   ·exact hE1 _ _ (by omega)
   ·exact hE _ _ (by omega)
 ·obtain ⟨i, o, ho, hbx⟩ := hb
  rcases obj i o ho with h2 | ⟨k, o1, rfl, h2, rfl⟩
  ·rw [blk_old i o h2] at hbx
   exact .inl ⟨i, o, h2, hbx⟩
  ·rw [blk_sh hρ] at hbx
   exact .inr (hlive1 b ⟨_, o1, h2, hbx⟩)
 ·rcases m.new b hb with x | x | x
  ·exact .inl x
  ·exact absurd x (nl b)
  ·exact .inr (.inr x)
structure HRet (P : Program) (f : FuncId) (args : List AV) (R : Nat → (Nat → Nat) → AV) (H : Nat → (Nat → Nat) → List AObj) : Prop where
 out : ACalls P f args Heap.nil fun r h' => ∃ eps, r = R 0 eps ∧ h'.dy = H 0 eps
 sh : ∀ B E eps, ∃ eps', (R 0 eps).sh B E = R B eps' ∧ (H 0 eps).map (AObj.sh B E) = H B eps'
theorem HRet.use {P : Program} {f : FuncId} {args : List AV} {R : Nat → (Nat → Nat) → AV} {H : Nat → (Nat → Nat) → List AObj} (hc : HRet P f args R H) (hp : args.all AV.isPure = true) {σ : Sg} {h : Heap} {w : World} (s : Sim σ h w) {vs : Array Value} (hv : VRels σ args vs.toList) :
  Calls P f vs w fun e w' => ∃ v, e = .returned v ∧ ∃ eps σ', Mv σ h w σ' ⟨h.st, h.dy ++ H h.dy.length eps⟩ w' ∧ VRel σ' (R h.dy.length eps) v := by
 refine (hc.out.fetch hp s hv).mono ?_
 rintro e w' ⟨v, rfl, E, σ', r, h', ⟨eps, rfl, e2⟩, m, x⟩
 obtain ⟨eps', h1, h2⟩ := hc.sh h.dy.length E eps
 rw [e2, h2] at m
 rw [h1] at x
 exact ⟨v, rfl, eps', σ', m, x⟩
end Go.Ab

namespace Go.Ab
def AObj.reEp (e : Nat) : AObj → AObj
 | .vec _ rows => .vec e rows
 | .map _ es => .map e es
 | .hole => .hole
def AObj.ep? : AObj → Option Nat
 | .vec e _ | .map e _ => some e
 | .hole => none
theorem VRel.reid {σ σ' : Sg} {id id2 : Id} {ep ep2 : Nat} (le : Sg.Le0 σ σ') (hρ : ∀ pl, σ.ρ id ep = some pl → σ'.ρ id2 ep2 = some pl) {v : Value} :
  (∀ {sz off len lim}, VRel σ (.oslc id ep sz off len lim) v → VRel σ' (.oslc id2 ep2 sz off len lim) v) ∧ (∀ {sz i off}, VRel σ (.optr id ep sz i off) v → VRel σ' (.optr id2 ep2 sz i off) v) ∧
  (VRel σ (.mp id ep) v → VRel σ' (.mp id2 ep2) v) := by
 refine ⟨fun h => ?_, fun h => ?_, fun h => ?_⟩
 ·cases h with
  | oslc h h1 h2 h3 h4 h5 => exact .oslc (hρ _ h) h1 h2 h3 h4 h5
  | onil h => exact .onil (hρ _ h)
  | onilz h => exact .onilz (hρ _ h)
  | oz h h1 h2 => exact .oz (hρ _ h) h1 h2
 ·cases h with
  | optr h => exact .optr (hρ _ h)
 ·cases h with
  | mp h => exact .mp (hρ _ h)
theorem Sim.move {σ : Sg} {h : Heap} {w : World} (s : Sim σ h w) {n ep : Nat} {o : AObj} (ho : h[Id.s n]? = some o) (he : o.ep? = some ep) :
  ∃ ep2 σ', Mv σ h w σ' ⟨h.st.set n .hole, h.dy ++ [o.reEp ep2]⟩ w ∧ ∀ pl, σ.ρ (.s n) ep = some pl → σ'.ρ (.d h.dy.length) ep2 = some pl := by
 obtain ⟨E, hE⟩ := s.fresh
 let σ' : Sg := { ρ := fun i e => if i = .d h.dy.length ∧ e = E then σ.ρ (.s n) ep else σ.ρ i e, FM := σ.FM, RM := σ.RM }
 have hnew : σ'.ρ (.d h.dy.length) E = σ.ρ (.s n) ep := by show (if Id.d h.dy.length = .d h.dy.length ∧ E = E then _ else _) = _; simp
 have hle : Sg.Le σ σ' := by
  refine ⟨fun i e pl x => ?_, fun _ _ x => x, fun _ _ x => x⟩
  show (if i = .d h.dy.length ∧ e = E then σ.ρ (.s n) ep else σ.ρ i e) = some pl
  rw [if_neg]
  ·exact x
  ·rintro ⟨rfl, rfl⟩
   rw [hE _ _ (Nat.le_refl _)] at x
   cases x
 have hok := s.obj _ _ ho
 have hblk : (o.reEp E).blk σ' (.d h.dy.length) = o.blk σ (.s n) := by
  cases o with
  | hole => rfl
  | vec e r => simp only [AObj.ep?, Option.some.injEq] at he; subst he; simp [AObj.blk, AObj.reEp, hnew]
  | map e r => simp only [AObj.ep?, Option.some.injEq] at he; subst he; simp [AObj.blk, AObj.reEp, hnew]
 have obj : ∀ (i : Id) (x : AObj), (⟨h.st.set n .hole, h.dy ++ [o.reEp E]⟩ : Heap)[i]? = some x → x = .hole ∨ (i ≠ .s n ∧ h[i]? = some x) ∨ (i = .d h.dy.length ∧ x = o.reEp E) := by
  intro i x hx
  cases i with
  | s m =>
   have hx : (h.st.set n .hole)[m]? = some x := hx
   by_cases e : m = n
   ·subst e
    rw [List.getElem?_set_self'] at hx
    cases hh : h.st[m]? with
    | none => simp [hh] at hx
    | some y => simp [hh] at hx; exact .inl hx.symm
   ·rw [List.getElem?_set_ne (Ne.symm e)] at hx
    exact .inr (.inl ⟨fun e' => e (Id.s.inj e'), hx⟩)
  | d m =>
   have hx : (h.dy ++ [o.reEp E])[m]? = some x := hx
   by_cases e : m < h.dy.length
   ·rw [List.getElem?_append_left e] at hx
    exact .inr (.inl ⟨(fun e' => by cases e'), hx⟩)
   ·rw [List.getElem?_append_right (by omega)] at hx
    have hm := (List.getElem?_eq_some_iff.1 hx).1
    have hm : m = h.dy.length := by simp at hm; omega
    subst hm
    simp at hx
    exact .inr (.inr ⟨rfl, hx.symm⟩)
 have blk_old : ∀ (i : Id) (x : AObj), h[i]? = some x → x.blk σ' i = x.blk σ i := fun i x hx => blk_le (s.obj i x hx) hle
 refine ⟨E, σ', ⟨hle, ⟨s.fm, fun i x hx => ?_, fun i j oi oj b hi hj bi bj => ?_, ⟨E + 1, fun i e hee => ?_⟩, s.rm⟩, rfl, rfl, rfl, Nat.le_refl _, fun _ _ _ => rfl, fun b hb => ?_, fun _ x => .inl x⟩, fun pl x => by rw [hnew]; exact x⟩
 ·rcases obj i x hx with rfl | ⟨hi, h1⟩ | ⟨rfl, rfl⟩
  ·trivial
  ·exact (s.obj i x h1).keep hle fun b hb => ⟨rfl, Live.noFM s ⟨i, x, h1, hb⟩⟩
  ·cases o with
   | hole => trivial
   | vec e rows =>
    simp only [AObj.ep?, Option.some.injEq] at he
    subst he
    rcases hok with ⟨h1, h2⟩ | ⟨blk, st, sz, m, size, cs, T, h1, h2, h3, h4, h5, h6, h7, h8⟩
    ·exact .inl ⟨h1, by rw [hnew]; exact h2⟩
    ·exact .inr ⟨blk, st, sz, m, size, cs, T, by rw [hnew]; exact h1, h2, h3, h4, h5, h6, h7, fun i j c x => let ⟨v, a, b, c⟩ := h8 i j c x; ⟨v, a, b, c.mono hle⟩⟩
   | map e es =>
    simp only [AObj.ep?, Option.some.injEq] at he
    subst he
    obtain ⟨blk, st, sz, m, size, ents, clock, h1, h2, h3, h4, h5⟩ := hok
    exact ⟨blk, st, sz, m, size, ents, clock, by rw [hnew]; exact h1, h2, h3, h4, fun i k v e x y => let ⟨a, b⟩ := h5 i k v e x y; ⟨a.mono hle, b.mono hle⟩⟩
 ·rcases obj i oi hi with rfl | ⟨ni, h1⟩ | ⟨rfl, rfl⟩
  ·simp [AObj.blk] at bi
  ·rcases obj j oj hj with rfl | ⟨nj, h2⟩ | ⟨rfl, rfl⟩
   ·simp [AObj.blk] at bj
   ·rw [blk_old i oi h1] at bi
    rw [blk_old j oj h2] at bj
    exact s.apart i j oi oj b h1 h2 bi bj
   ·rw [blk_old i oi h1] at bi
    rw [hblk] at bj
    exact absurd (s.apart i _ oi o b h1 ho bi bj) ni
  ·rcases obj j oj hj with rfl | ⟨nj, h2⟩ | ⟨rfl, rfl⟩
   ·simp [AObj.blk] at bj
   ·rw [blk_old j oj h2] at bj
    rw [hblk] at bi
    exact absurd (s.apart j _ oj o b h2 ho bj bi) nj
   ·rfl
 ·show (if i = .d h.dy.length ∧ e = E then σ.ρ (.s n) ep else σ.ρ i e) = none
  rw [if_neg (fun x => absurd x.2 (by omega))]
  exact hE _ _ (by omega)
 ·obtain ⟨i, x, hx, hbx⟩ := hb
  rcases obj i x hx with rfl | ⟨ni, h1⟩ | ⟨rfl, rfl⟩
  ·simp [AObj.blk] at hbx
  ·rw [blk_old i x h1] at hbx; exact .inl ⟨i, x, h1, hbx⟩
  ·rw [hblk] at hbx; exact .inl ⟨_, o, ho, hbx⟩
def mov1 (h : Heap) (a : AV) (K : AV → Heap → Prop) : Prop :=
 match a with
 | .oslc (.s n) ep sz off len lim => match h[Id.s n]? with
  | some (.vec ep' rows) => ep' = ep ∧ ∀ ep2, K (.oslc (.d h.dy.length) ep2 sz off len lim) ⟨h.st.set n .hole, h.dy ++ [.vec ep2 rows]⟩
  | _ => False
 | .optr (.s n) ep sz i off => match h[Id.s n]? with
  | some (.vec ep' rows) => ep' = ep ∧ ∀ ep2, K (.optr (.d h.dy.length) ep2 sz i off) ⟨h.st.set n .hole, h.dy ++ [.vec ep2 rows]⟩
  | _ => False
 | .mp (.s n) ep => match h[Id.s n]? with
  | some (.map ep' es) => ep' = ep ∧ ∀ ep2, K (.mp (.d h.dy.length) ep2) ⟨h.st.set n .hole, h.dy ++ [.map ep2 es]⟩
  | _ => False
 | a => K a h
def movCells (h : Heap) : List AV → (List AV → Heap → Prop) → Prop
 | [], K => K [] h
 | a :: r, K => mov1 h a fun a' h' => movCells h' r fun r' h'' => K (a' :: r') h''
def movA (h : Heap) (a : AV) (K : AV → Heap → Prop) : Prop :=
 match a with
 | .agg cs => movCells h cs fun cs' h' => K (.agg cs') h'
 | .fn f first cap => movCells h cap fun cap' h' => K (.fn f first cap') h'
 | a => mov1 h a K
def movAs (h : Heap) : List AV → (List AV → Heap → Prop) → Prop
 | [], K => K [] h
 | a :: r, K => movA h a fun a' h' => movAs h' r fun r' h'' => K (a' :: r') h''
def movK (h : Heap) (a : AV) (K : AV → Heap → Prop) : Prop :=
 match a with
 | .tup cs => movAs h cs fun cs' h' => K (.tup cs') h'
 | a => movA h a K
theorem mov1_sound {σ : Sg} {h : Heap} {w : World} (s : Sim σ h w) {a : AV} {v : Value} (hv : VRel σ a v) {K : AV → Heap → Prop} (hk : mov1 h a K) :
  ∃ σ' h' a', Mv σ h w σ' h' w ∧ VRel σ' a' v ∧ K a' h' := by
 unfold mov1 at hk
 split at hk
 ·split at hk
  ·rename_i ep' rows ho
   obtain ⟨rfl, hk⟩ := hk
   obtain ⟨ep2, σ', m, hp⟩ := s.move ho rfl
   exact ⟨σ', _, _, m, (VRel.reid m.le.le0 hp).1 hv, hk ep2⟩
  ·exact hk.elim
 ·split at hk
  ·rename_i ep' rows ho
   obtain ⟨rfl, hk⟩ := hk
   obtain ⟨ep2, σ', m, hp⟩ := s.move ho rfl
   exact ⟨σ', _, _, m, (VRel.reid m.le.le0 hp).2.1 hv, hk ep2⟩
  ·exact hk.elim
 ·split at hk
  ·rename_i ep' rows ho
   obtain ⟨rfl, hk⟩ := hk
   obtain ⟨ep2, σ', m, hp⟩ := s.move ho rfl
   exact ⟨σ', _, _, m, (VRel.reid m.le.le0 hp).2.2 hv, hk ep2⟩
  ·exact hk.elim
 ·exact ⟨σ, h, a, .refl s, hv, hk⟩
theorem movCells_sound : ∀ {cs : List AV} {vs : List Value} {σ : Sg} {h : Heap} {w : World}, Sim σ h w → VRels σ cs vs → ∀ {K : List AV → Heap → Prop}, movCells h cs K →
  ∃ σ' h' cs', Mv σ h w σ' h' w ∧ VRels σ' cs' vs ∧ K cs' h' := by
 intro cs
 induction cs with
 | nil => intro vs σ h w s hv K hk; exact ⟨σ, h, [], .refl s, hv, hk⟩
 | cons c cs ih =>
  intro vs σ h w s hv K hk
  match vs, hv with
  | [], hv => cases hv.1
  | v :: vs, hv =>
   obtain ⟨σ1, h1, c', m1, r1, k1⟩ := mov1_sound s (hv.2 0 c v rfl rfl) hk
   have htl : VRels σ cs vs := ⟨by have := hv.1; simpa using this, fun i a v x y => hv.2 (i + 1) a v (by simpa using x) (by simpa using y)⟩
   obtain ⟨σ2, h2, cs', m2, r2, k2⟩ := ih m1.sim (htl.mono m1.le) k1
   exact ⟨σ2, h2, c' :: cs', m1.trans m2, VRels.cons (r1.mono m2.le) r2, k2⟩
theorem movA_sound {σ : Sg} {h : Heap} {w : World} (s : Sim σ h w) {a : AV} {v : Value} (hv : VRel σ a v) {K : AV → Heap → Prop} (hk : movA h a K) :
  ∃ σ' h' a', Mv σ h w σ' h' w ∧ VRel σ' a' v ∧ K a' h' := by
 unfold movA at hk
 split at hk
 ·rename_i cs
  cases hv with
  | @agg _ _ vs l o hh =>
   obtain ⟨σ', h', cs', m, r, k⟩ := movCells_sound s (vs := vs.toList) ⟨by simpa using l, fun i a v x y => hh i a v x (by simpa using y)⟩ hk
   exact ⟨σ', h', _, m, .agg (by have := r.1; simpa using this) o (fun i a v x y => r.2 i a v x (by simpa using y)), k⟩
 ·rename_i f first cap
  cases hv with
  | @fn _ _ _ _ first' cap' l1 l2 v1 v2 =>
   obtain ⟨σ', h', cs', m, r, k⟩ := movCells_sound s (vs := cap'.toList) ⟨by simpa using l2, fun i a v x y => v2 i a v x (by simpa using y)⟩ hk
   exact ⟨σ', h', _, m, .fn l1 (by have := r.1; simpa using this) (fun i a v x y => (v1 i a v x y).mono m.le) (fun i a v x y => r.2 i a v x (by simpa using y)), k⟩
 ·exact mov1_sound s hv hk
theorem movAs_sound : ∀ {cs : List AV} {vs : List Value} {σ : Sg} {h : Heap} {w : World}, Sim σ h w → VRels σ cs vs → ∀ {K : List AV → Heap → Prop}, movAs h cs K →
  ∃ σ' h' cs', Mv σ h w σ' h' w ∧ VRels σ' cs' vs ∧ K cs' h' := by
 intro cs
 induction cs with
 | nil => intro vs σ h w s hv K hk; exact ⟨σ, h, [], .refl s, hv, hk⟩
 | cons c cs ih =>
  intro vs σ h w s hv K hk
  match vs, hv with
  | [], hv => cases hv.1
  | v :: vs, hv =>
   obtain ⟨σ1, h1, c', m1, r1, k1⟩ := movA_sound s (hv.2 0 c v rfl rfl) hk
   have htl : VRels σ cs vs := ⟨by have := hv.1; simpa using this, fun i a v x y => hv.2 (i + 1) a v (by simpa using x) (by simpa using y)⟩
   obtain ⟨σ2, h2, cs', m2, r2, k2⟩ := ih m1.sim (htl.mono m1.le) k1
   exact ⟨σ2, h2, c' :: cs', m1.trans m2, VRels.cons (r1.mono m2.le) r2, k2⟩
theorem movK_sound {σ : Sg} {h : Heap} {w : World} (s : Sim σ h w) {a : AV} {v : Value} (hv : VRel σ a v) {K : AV → Heap → Prop} (hk : movK h a K) :
  ∃ σ' h' a', Mv σ h w σ' h' w ∧ VRel σ' a' v ∧ K a' h' := by
 unfold movK at hk
 split at hk
 ·rename_i cs
  cases hv with
  | @tup _ _ vs l hh =>
   obtain ⟨σ', h', cs', m, r, k⟩ := movAs_sound s (vs := vs.toList) ⟨by simpa using l, fun i a v x y => hh i a v x (by simpa using y)⟩ hk
   exact ⟨σ', h', _, m, .tup (by have := r.1; simpa using this) (fun i a v x y => r.2 i a v x (by simpa using y)), k⟩
 ·exact movA_sound s hv hk
def pureObj : AObj → Prop
 | .vec _ rows => pureRows rows
 | .map _ _ => False
 | .hole => True
def fzC (dy : List AObj) : AV → AV
 | .oslc (.d k) ep sz off len lim => match dy[k]? with
  | some (.vec ep' rows) => if ep' = ep then .lslc sz rows off len lim else .u
  | _ => .u
 | a => a
def AObj.fz (dy : List AObj) : AObj → AObj
 | .vec ep rows => .vec ep (rows.map fun r => r.map (fzC dy))
 | .map ep es => .map ep (es.map fun p => (fzC dy p.1, fzC dy p.2))
 | .hole => .hole
def fzV (dy : List AObj) : AV → AV
 | .agg cs => .agg (cs.map (fzC dy))
 | .tup cs => .tup (cs.map fun a => match a with | .agg cs => .agg (cs.map (fzC dy)) | a => fzC dy a)
 | a => fzC dy a
def frzD (h : Heap) (a : AV) (K : AV → Heap → Prop) : Prop := (∀ o ∈ h.dy, pureObj o) ∧ K (fzV h.dy a) ⟨h.st.map (AObj.fz h.dy), []⟩
theorem frzD_sound {σ : Sg} {h : Heap} {w : World} (s : Sim σ h w) {a : AV} {v : Value} (hv : VRel σ a v) {K : AV → Heap → Prop} (hk : frzD h a K) :
  ∃ σ' h' a', Mv σ h w σ' h' w ∧ VRel σ' a' v ∧ K a' h' := by
 classical
 obtain ⟨hp, hk⟩ := hk
 let D : Nat → Prop := fun b => ∃ (k : Nat) (o : AObj), h.dy[k]? = some o ∧ o.blk σ (.d k) = some b
 let σ' : Sg := { ρ := σ.ρ, FM := fun b => if D b then (match w.heap[b]? with | some (.cells cs _ _) => some cs | _ => none) else σ.FM b, RM := σ.RM }
 have hDl : ∀ b, D b → Live σ h b := fun b ⟨k, o, h1, h2⟩ => ⟨.d k, o, h1, h2⟩
 have hle : Sg.Le σ σ' := by
  refine ⟨fun _ _ _ x => x, fun b cs x => ?_, fun _ _ x => x⟩
  show (if D b then _ else σ.FM b) = some cs
  rw [if_neg]
  ·exact x
  ·intro hd
   rw [Live.noFM s (hDl b hd)] at x
   cases x
 have cell : ∀ {c : AV} {u : Value}, VRel σ c u → VRel σ' (fzC h.dy c) u := by
  intro c u hc
  unfold fzC
  split
  ·rename_i k ep sz off len lim
   split
   ·rename_i ep' rows ho
    split
    ·rename_i e
     subst e
     have hpr : pureRows rows := hp _ (List.mem_of_getElem? ho)
     cases hc with
     | @oslc _ _ _ _ _ _ _ blk st n size cap hh h1 h2 h3 h4 h5 =>
      rcases s.obj (.d k) _ ho with ⟨_, x⟩ | ⟨blk', st', sz', n', size', cells, T, e1, e2, e3, e4, e5, e6, e7, e8⟩
      ·rw [hh] at x; cases x
      rw [hh] at e1
      cases e1
      have hfm : σ'.FM blk = some cells := by
       show (if D blk then (match w.heap[blk]? with | some (.cells cs _ _) => some cs | _ => none) else σ.FM blk) = some cells
       rw [if_pos ⟨k, _, ho, by simp [AObj.blk, hh]⟩, e2]
      refine .lslc (blk := blk) (st := st) (fun i j => cells.getD (st + i * sz + j) undef) e7 (fun i j c hc => ?_) (fun i j c hc => ?_) (fun i j c hc => ?_) (by omega) h3 h5
      ·obtain ⟨v, f1, f2, f3⟩ := e8 i j c hc
       exact ⟨cells, hfm, by rw [f1]; simp [f1]⟩
      ·obtain ⟨v, f1, f2, f3⟩ := e8 i j c hc
       simp [f1, f2]
      ·obtain ⟨v, f1, f2, f3⟩ := e8 i j c hc
       obtain ⟨row, hr, hj⟩ := cellAt_get hc
       have hpc := hpr row (List.mem_of_getElem? hr) c (List.mem_of_getElem? hj)
       have := (f3.mono hle).pure1 hpc
       simpa [f1] using this
     | onil hh => exact .lnil
     | onilz hh => exact .lz
     | oz hh h1 h2 => exact .lz
    ·exact .u
   ·exact .u
  ·exact hc.mono hle
 have cells : ∀ {cs : List AV} {us : List Value}, (∀ (i : Nat) (c : AV) (u : Value), cs[i]? = some c → us[i]? = some u → VRel σ c u) → ∀ (i : Nat) (c : AV) (u : Value), (cs.map (fzC h.dy))[i]? = some c → us[i]? = some u → VRel σ' c u := by
  intro cs us hh i c u x y
  rw [List.getElem?_map, Option.map_eq_some_iff] at x
  obtain ⟨c', x, rfl⟩ := x
  exact cell (hh i c' u x y)
 have aggs : ∀ {x : AV} {u : Value}, VRel σ x u → VRel σ' (match x with | .agg cs => .agg (cs.map (fzC h.dy)) | a => fzC h.dy a) u := by
  intro x u hx
  split
  ·cases hx with
   | @agg _ _ vs l o hh => exact .agg (by simpa using l) o fun i c v x y => cells (us := vs.toList) (fun i c v x y => hh i c v x (by simpa using y)) i c v x (by simpa using y)
  ·exact cell hx
 have obj : ∀ (i : Id) (x : AObj), (⟨h.st.map (AObj.fz h.dy), []⟩ : Heap)[i]? = some x → ∃ n o, i = .s n ∧ h[i]? = some o ∧ x = o.fz h.dy := by
  intro i x hx
  cases i with
  | s n =>
   have hx : (h.st.map (AObj.fz h.dy))[n]? = some x := hx
   rw [List.getElem?_map, Option.map_eq_some_iff] at hx
   obtain ⟨o, h1, rfl⟩ := hx
   exact ⟨n, o, rfl, h1, rfl⟩
  | d n => have hx : ([] : List AObj)[n]? = some x := hx; simp at hx
 have blk_fz : ∀ (i : Id) (o : AObj), (o.fz h.dy).blk σ' i = o.blk σ i := fun i o => by cases o <;> rfl
 have nD : ∀ (n : Nat) (o : AObj) (b : Nat), h[Id.s n]? = some o → o.blk σ (.s n) = some b → ¬ D b := by
  rintro n o b ho hb ⟨k, o2, h1, h2⟩
  have := s.apart (.s n) (.d k) o o2 b ho h1 hb h2
  cases this
 refine ⟨σ', _, _, ⟨hle, ⟨fun b cs x => ?_, fun i x hx => ?_, fun i j oi oj b hi hj bi bj => ?_, s.fresh, s.rm⟩, rfl, rfl, rfl, Nat.le_refl _, fun _ _ _ => rfl, fun b hb => ?_, fun b hb => ?_⟩, ?_, hk⟩
 ·have x : (if D b then (match w.heap[b]? with | some (.cells cs _ _) => some cs | _ => none) else σ.FM b) = some cs := x
  split at x
  ·split at x
   ·rename_i cs' T fz e; cases x; exact ⟨T, fz, e⟩
   ·cases x
  ·exact s.fm b cs x
 ·obtain ⟨n, o, rfl, ho, rfl⟩ := obj i x hx
  have hok := s.obj _ _ ho
  have nfm : ∀ b, o.blk σ (.s n) = some b → σ'.FM b = none := fun b hb => by
   show (if D b then _ else σ.FM b) = none
   rw [if_neg (nD n o b ho hb)]
   exact Live.noFM s ⟨_, o, ho, hb⟩
  cases o with
  | hole => trivial
  | vec ep rows =>
   rcases hok with ⟨h1, h2⟩ | ⟨blk, st, sz, m, size, cs, T, h1, h2, h3, h4, h5, h6, h7, h8⟩
   ·exact .inl ⟨by rw [h1]; rfl, h2⟩
   ·refine .inr ⟨blk, st, sz, m, size, cs, T, h1, h2, h3, by simpa using h4, h5, nfm blk (by simp [AObj.blk, h1]), fun i row hr => ?_, fun i j c x => ?_⟩
    ·rw [List.getElem?_map, Option.map_eq_some_iff] at hr
     obtain ⟨r, hr, rfl⟩ := hr
     simpa using h7 i r hr
    ·obtain ⟨c', x', rfl⟩ := cellAt_map x
     obtain ⟨v, a, b, d⟩ := h8 i j c' x'
     exact ⟨v, a, b, cell d⟩
  | map ep es =>
   obtain ⟨blk, st, sz, m, size, ents, clock, h1, h2, h3, h4, h5⟩ := hok
   refine ⟨blk, st, sz, m, size, ents, clock, h1, h2, nfm blk (by simp [AObj.blk, h1]), by simpa using h4, fun i k v e x y => ?_⟩
   rw [List.getElem?_map, Option.map_eq_some_iff] at x
   obtain ⟨⟨k', v'⟩, x, e1⟩ := x
   cases e1
   obtain ⟨a, b⟩ := h5 i k' v' e x y
   exact ⟨cell a, cell b⟩
 ·obtain ⟨n, o, rfl, ho, rfl⟩ := obj i oi hi
  obtain ⟨n', o', rfl, ho', rfl⟩ := obj j oj hj
  rw [blk_fz] at bi bj
  exact s.apart _ _ o o' b ho ho' bi bj
 ·obtain ⟨i, x, hx, hbx⟩ := hb
  obtain ⟨n, o, rfl, ho, rfl⟩ := obj i x hx
  rw [blk_fz] at hbx
  exact .inl ⟨_, o, ho, hbx⟩
 ·have hb : (if D b then (match w.heap[b]? with | some (.cells cs _ _) => some cs | _ => none) else σ.FM b) ≠ none := hb
  split at hb
  ·rename_i hd; exact .inr (.inl (hDl b hd))
  ·exact .inl hb
 ·unfold fzV
  split
  ·rename_i cs
   cases hv with
   | @agg _ _ vs l o hh => exact .agg (by simpa using l) o fun i c v x y => cells (us := vs.toList) (fun i c v x y => hh i c v x (by simpa using y)) i c v x (by simpa using y)
  ·rename_i cs
   cases hv with
   | @tup _ _ vs l hh =>
    refine .tup (by simpa using l) fun i c v x y => ?_
    rw [List.getElem?_map, Option.map_eq_some_iff] at x
    obtain ⟨c', x, rfl⟩ := x
    exact aggs (hh i c' v x y)
  ·exact cell hv
end Go.Ab

namespace Go.Ab
def fcS (n : Nat) (rows : List (List AV)) : AV → AV
 | .oslc (.s k) ep sz off len lim => match Nat.beq k n with
  | true => .lslc sz rows off len lim
  | false => .oslc (.s k) ep sz off len lim
 | a => a
def AObj.fcO (n : Nat) (rows : List (List AV)) : AObj → AObj
 | .vec ep rs => .vec ep (rs.map fun r => r.map (fcS n rows))
 | .map ep es => .map ep (es.map fun p => (fcS n rows p.1, fcS n rows p.2))
 | .hole => .hole
def fcV (n : Nat) (rows : List (List AV)) : AV → AV
 | .agg cs => .agg (cs.map (fcS n rows))
 | .tup cs => .tup (cs.map fun a => match a with | .agg cs => .agg (cs.map (fcS n rows)) | a => fcS n rows a)
 | a => fcS n rows a
def celV : AV → List AV
 | .agg cs => cs
 | .tup cs => cs.flatMap fun a => match a with | .agg cs => cs | a => [a]
 | a => [a]
def celO : AObj → List AV
 | .vec _ rows => rows.flatten
 | .map _ es => es.flatMap fun p => [p.1, p.2]
 | .hole => []
def eqsP (n ep : Nat) : List AV → Prop
 | [] => True
 | a :: r => match a with
  | .oslc (.s k) ep' _ _ _ _ => (match Nat.beq k n with
   | true => ep' = ep ∧ eqsP n ep r
   | false => eqsP n ep r)
  | _ => eqsP n ep r
def okS (n ep : Nat) : AV → Prop
 | .oslc (.s k) ep' _ _ _ _ => k = n → ep' = ep
 | _ => True
theorem eqsP_all {n ep : Nat} : ∀ {l : List AV}, eqsP n ep l → ∀ a ∈ l, okS n ep a := by
 intro l
 induction l with
 | nil => intro _ a h; cases h
 | cons b r ih =>
  intro h a ha
  unfold eqsP at h
  split at h
  ·rename_i k ep' sz off len lim
   split at h
   ·rcases List.mem_cons.1 ha with rfl | ha
    ·intro _; exact h.1
    ·exact ih h.2 a ha
   ·rename_i hb
    rcases List.mem_cons.1 ha with rfl | ha
    ·intro e
     subst e
     simp at hb
    ·exact ih h a ha
  ·rename_i hn
   rcases List.mem_cons.1 ha with rfl | ha
   ·unfold okS
    split
    ·rename_i k ep' _ _ _ _
     exact (hn k ep' _ _ _ _ rfl).elim
    ·trivial
   ·exact ih h a ha
def allO (n ep : Nat) : List AObj → Prop
 | [] => True
 | o :: r => eqsP n ep (celO o) ∧ allO n ep r
theorem allO_get {n ep : Nat} : ∀ {l : List AObj}, allO n ep l → ∀ o ∈ l, eqsP n ep (celO o)
 | [], _, _, h => by cases h
 | o :: r, h, x, hx => by
  rcases List.mem_cons.1 hx with rfl | hx
  ·exact h.1
  ·exact allO_get h.2 x hx
def fzSK (n : Nat) (fr : List AV) (h : Heap) (K : List AV → Heap → Prop) : Prop :=
 match h.st[n]? with
 | some (.vec ep rows) => pureRows rows ∧ eqsP n ep (fr.flatMap celV) ∧ allO n ep (h.st.set n .hole) ∧ allO n ep h.dy ∧
   K (fr.map (fcV n rows)) ⟨(h.st.set n .hole).map (AObj.fcO n rows), h.dy.map (AObj.fcO n rows)⟩
 | _ => match Nat.ble 1000 n with
  | true => K (fr.set (n - 1000) .u) h
  | false => K fr h
theorem fzSK_sound {n : Nat} {σ : Sg} {fr : List AV} {h : Heap} {w : World} {vs : List Value} {K : List AV → Heap → Prop} (hf : VRels σ fr vs) (s : Sim σ h w) (hk : fzSK n fr h K) :
  ∃ σ' fr' h', K fr' h' ∧ Mv σ h w σ' h' w ∧ VRels σ' fr' vs := by
 classical
 unfold fzSK at hk
 split at hk
 case h_2 =>
  split at hk
  ·refine ⟨σ, _, h, hk, .refl s, ⟨by simpa using hf.1, fun i a v x y => ?_⟩⟩
   rw [List.getElem?_set] at x
   split at x
   ·split at x
    ·cases x; exact .u
    ·cases x
   ·exact hf.2 i a v x y
  ·exact ⟨σ, fr, h, hk, .refl s, hf⟩
 rename_i ep rows hn
 have hn : h[Id.s n]? = some (.vec ep rows) := hn
 obtain ⟨hpr, q1, q2, q3, hk⟩ := hk
 let D : Nat → Prop := fun b => (AObj.vec ep rows).blk σ (.s n) = some b
 let σ' : Sg := { ρ := σ.ρ, FM := fun b => if D b then (match w.heap[b]? with | some (.cells cs _ _) => some cs | _ => none) else σ.FM b, RM := σ.RM }
 have hDl : ∀ b, D b → Live σ h b := fun b hb => ⟨.s n, _, hn, hb⟩
 have hle : Sg.Le σ σ' := by
  refine ⟨fun _ _ _ x => x, fun b cs x => ?_, fun _ _ x => x⟩
  show (if D b then _ else σ.FM b) = some cs
  rw [if_neg]
  ·exact x
  ·intro hd
   rw [Live.noFM s (hDl b hd)] at x
   cases x
 have cell : ∀ {c : AV} {u : Value}, okS n ep c → VRel σ c u → VRel σ' (fcS n rows c) u := by
  intro c u hc0 hc
  unfold fcS
  split
  ·rename_i k ep' sz off len lim
   split
   ·rename_i e
    have e : k = n := by simpa using e
    subst e
    have e2 : ep' = ep := hc0 rfl
    subst e2
    cases hc with
    | @oslc _ _ _ _ _ _ _ blk st n size cap hh h1 h2 h3 h4 h5 =>
     rcases s.obj _ _ hn with ⟨_, x⟩ | ⟨blk', st', sz', n', size', cells, T, e1, e2, e3, e4, e5, e6, e7, e8⟩
     ·rw [hh] at x; cases x
     rw [hh] at e1
     cases e1
     have hfm : σ'.FM blk = some cells := by
      show (if D blk then (match w.heap[blk]? with | some (.cells cs _ _) => some cs | _ => none) else σ.FM blk) = some cells
      rw [if_pos (by show (AObj.vec _ _).blk σ _ = some blk; simp [AObj.blk, hh]), e2]
     refine .lslc (blk := blk) (st := st) (fun i j => cells.getD (st + i * sz + j) undef) e7 (fun i j c hc => ?_) (fun i j c hc => ?_) (fun i j c hc => ?_) (by omega) h3 h5
     ·obtain ⟨v, f1, f2, f3⟩ := e8 i j c hc
      exact ⟨cells, hfm, by rw [f1]; simp [f1]⟩
     ·obtain ⟨v, f1, f2, f3⟩ := e8 i j c hc
      simp [f1, f2]
     ·obtain ⟨v, f1, f2, f3⟩ := e8 i j c hc
      obtain ⟨row, hr, hj⟩ := cellAt_get hc
      have hpc := hpr row (List.mem_of_getElem? hr) c (List.mem_of_getElem? hj)
      have := (f3.mono hle).pure1 hpc
      simpa [f1] using this
    | onil hh => exact .lnil
    | onilz hh => exact .lz
    | oz hh h1 h2 => exact .lz
   ·exact hc.mono hle
  ·exact hc.mono hle
 have cells : ∀ {cs : List AV} {us : List Value}, (∀ a ∈ cs, okS n ep a) → (∀ (i : Nat) (c : AV) (u : Value), cs[i]? = some c → us[i]? = some u → VRel σ c u) → ∀ (i : Nat) (c : AV) (u : Value), (cs.map (fcS n rows))[i]? = some c → us[i]? = some u → VRel σ' c u := by
  intro cs us hq hh i c u x y
  rw [List.getElem?_map, Option.map_eq_some_iff] at x
  obtain ⟨c', x, rfl⟩ := x
  exact cell (hq _ (List.mem_of_getElem? x)) (hh i c' u x y)
 have aggs : ∀ {x : AV} {u : Value}, (∀ a ∈ (match x with | .agg cs => cs | a => [a]), okS n ep a) → VRel σ x u → VRel σ' (match x with | .agg cs => .agg (cs.map (fcS n rows)) | a => fcS n rows a) u := by
  intro x u hq hx
  split at hq
  ·cases hx with
   | @agg _ _ vs l o hh => exact .agg (by simpa using l) o fun i c v x y => cells (us := vs.toList) hq (fun i c v x y => hh i c v x (by simpa using y)) i c v x (by simpa using y)
  ·exact cell (hq _ (List.mem_singleton.2 rfl)) hx
 have vals : ∀ {a : AV} {v : Value}, (∀ x ∈ celV a, okS n ep x) → VRel σ a v → VRel σ' (fcV n rows a) v := by
  intro a v hq hv
  unfold celV at hq
  unfold fcV
  split at hq
  ·rename_i cs
   cases hv with
   | @agg _ _ vs l o hh => exact .agg (by simpa using l) o fun i c v x y => cells (us := vs.toList) hq (fun i c v x y => hh i c v x (by simpa using y)) i c v x (by simpa using y)
  ·rename_i cs
   cases hv with
   | @tup _ _ vs l hh =>
    refine .tup (by simpa using l) fun i c v x y => ?_
    rw [List.getElem?_map, Option.map_eq_some_iff] at x
    obtain ⟨c', x, rfl⟩ := x
    exact aggs (fun a ha => hq a (List.mem_flatMap.2 ⟨c', List.mem_of_getElem? x, ha⟩)) (hh i c' v x y)
  ·exact cell (hq _ (List.mem_singleton.2 rfl)) hv
 have a1 := eqsP_all q1
 have obQ : ∀ (i : Id) (o : AObj), i ≠ .s n → h[i]? = some o → ∀ a ∈ celO o, okS n ep a := by
  intro i o hi ho a ha
  cases i with
  | s k =>
   have ho : h.st[k]? = some o := ho
   exact eqsP_all (allO_get q2 o (List.mem_of_getElem? (show (h.st.set n .hole)[k]? = some o by rw [List.getElem?_set_ne (fun e => hi (congrArg Id.s e.symm))]; exact ho))) a ha
  | d k => exact eqsP_all (allO_get q3 o (List.mem_of_getElem? (show h.dy[k]? = some o from ho))) a ha
 have obj : ∀ (i : Id) (x : AObj), (⟨(h.st.set n .hole).map (AObj.fcO n rows), h.dy.map (AObj.fcO n rows)⟩ : Heap)[i]? = some x → x = .hole ∨ (i ≠ .s n ∧ ∃ o, h[i]? = some o ∧ x = o.fcO n rows) := by
  intro i x hx
  cases i with
  | s m =>
   have hx : ((h.st.set n .hole).map (AObj.fcO n rows))[m]? = some x := hx
   rw [List.getElem?_map, Option.map_eq_some_iff] at hx
   obtain ⟨o, h1, rfl⟩ := hx
   by_cases e : m = n
   ·subst e
    rw [List.getElem?_set_self'] at h1
    cases hh : h.st[m]? with
    | none => simp [hh] at h1
    | some y => simp [hh] at h1; subst h1; exact .inl rfl
   ·rw [List.getElem?_set_ne (Ne.symm e)] at h1
    exact .inr ⟨fun e' => e (Id.s.inj e'), o, h1, rfl⟩
  | d m =>
   have hx : (h.dy.map (AObj.fcO n rows))[m]? = some x := hx
   rw [List.getElem?_map, Option.map_eq_some_iff] at hx
   obtain ⟨o, h1, rfl⟩ := hx
   exact .inr ⟨(fun e' => by cases e'), o, h1, rfl⟩
 have blk_fz : ∀ (i : Id) (o : AObj), (o.fcO n rows).blk σ' i = o.blk σ i := fun i o => by cases o <;> rfl
 have nD : ∀ (i : Id) (o : AObj) (b : Nat), i ≠ .s n → h[i]? = some o → o.blk σ i = some b → ¬ D b := by
  rintro i o b hi ho hb hd
  exact hi (s.apart i (.s n) o _ b ho hn hb hd)
 refine ⟨σ', _, _, hk, ⟨hle, ⟨fun b cs x => ?_, fun i x hx => ?_, fun i j oi oj b hi hj bi bj => ?_, s.fresh, s.rm⟩, rfl, rfl, rfl, Nat.le_refl _, fun _ _ _ => rfl, fun b hb => ?_, fun b hb => ?_⟩, ?_⟩
 ·have x : (if D b then (match w.heap[b]? with | some (.cells cs _ _) => some cs | _ => none) else σ.FM b) = some cs := x
  split at x
  ·split at x
   ·rename_i cs' T fz e; cases x; exact ⟨T, fz, e⟩
   ·cases x
  ·exact s.fm b cs x
 ·rcases obj i x hx with rfl | ⟨hi, o, ho, rfl⟩
  ·trivial
  have hok := s.obj _ _ ho
  have hq := obQ i o hi ho
  have nfm : ∀ b, o.blk σ i = some b → σ'.FM b = none := fun b hb => by
   show (if D b then _ else σ.FM b) = none
   rw [if_neg (nD i o b hi ho hb)]
   exact Live.noFM s ⟨_, o, ho, hb⟩
  cases o with
  | hole => trivial
  | vec ep' rs =>
   rcases hok with ⟨h1, h2⟩ | ⟨blk, st, sz, m, size, cs, T, h1, h2, h3, h4, h5, h6, h7, h8⟩
   ·exact .inl ⟨by rw [h1]; rfl, h2⟩
   ·refine .inr ⟨blk, st, sz, m, size, cs, T, h1, h2, h3, by simpa using h4, h5, nfm blk (by simp [AObj.blk, h1]), fun i row hr => ?_, fun i j c x => ?_⟩
    ·rw [List.getElem?_map, Option.map_eq_some_iff] at hr
     obtain ⟨r, hr, rfl⟩ := hr
     simpa using h7 i r hr
    ·obtain ⟨c', x', rfl⟩ := cellAt_map x
     obtain ⟨v, a, b, d⟩ := h8 i j c' x'
     obtain ⟨row, hr, hj⟩ := cellAt_get x'
     exact ⟨v, a, b, cell (hq c' (List.mem_flatten.2 ⟨row, List.mem_of_getElem? hr, List.mem_of_getElem? hj⟩)) d⟩
  | map ep' es =>
   obtain ⟨blk, st, sz, m, size, ents, clock, h1, h2, h3, h4, h5⟩ := hok
   refine ⟨blk, st, sz, m, size, ents, clock, h1, h2, nfm blk (by simp [AObj.blk, h1]), by simpa using h4, fun i k v e x y => ?_⟩
   rw [List.getElem?_map, Option.map_eq_some_iff] at x
   obtain ⟨⟨k', v'⟩, x, e1⟩ := x
   cases e1
   obtain ⟨a, b⟩ := h5 i k' v' e x y
   have hm := List.mem_of_getElem? x
   exact ⟨cell (hq _ (List.mem_flatMap.2 ⟨_, hm, by simp⟩)) a, cell (hq _ (List.mem_flatMap.2 ⟨_, hm, by simp⟩)) b⟩
 ·rcases obj i oi hi with rfl | ⟨ni, o, ho, rfl⟩
  ·cases bi
  rcases obj j oj hj with rfl | ⟨nj, o', ho', rfl⟩
  ·cases bj
  rw [blk_fz] at bi bj
  exact s.apart _ _ o o' b ho ho' bi bj
 ·obtain ⟨i, x, hx, hbx⟩ := hb
  rcases obj i x hx with rfl | ⟨ni, o, ho, rfl⟩
  ·cases hbx
  rw [blk_fz] at hbx
  exact .inl ⟨_, o, ho, hbx⟩
 ·have hb : (if D b then (match w.heap[b]? with | some (.cells cs _ _) => some cs | _ => none) else σ.FM b) ≠ none := hb
  split at hb
  ·rename_i hd; exact .inr (.inl (hDl b hd))
  ·exact .inl hb
 ·refine ⟨by simpa using hf.1, fun i a v x y => ?_⟩
  rw [List.getElem?_map, Option.map_eq_some_iff] at x
  obtain ⟨a', x, rfl⟩ := x
  exact vals (fun c hc => a1 c (List.mem_flatMap.2 ⟨a', List.mem_of_getElem? x, hc⟩)) (hf.2 i a' v x y)
end Go.Ab

namespace Go.Ab
structure COk (C : Ctx) : Prop where
 tok : TOk C.P C.ti
 fn : ∀ f, C.fnok f = true → ∃ fn, C.P.funcs[f]? = some fn ∧ (fn.name == "runtime.NumGoroutine") = false ∧ fn.body.isNone = false
def evl (fr : List AV) : Operand → AV
 | .tmp t => fr.getD t .u
 | .const v => (ofVal v).getD .u
 | .global _ => .u
 | .func f => .fn (.func f) [] []
theorem evl_rel {σ : Sg} {fr : List AV} {a : Act} (h : VRels σ fr a.tmps.toList) : OpRel σ (evl fr) a.eval := by
 intro x
 cases x with
 | tmp t =>
  simp only [evl, Act.eval, List.getD]
  cases hf : fr[t]? with
  | none => exact .u
  | some v =>
   have ht := (List.getElem?_eq_some_iff.1 hf).1
   have hl : fr.length = a.tmps.size := by have := h.1; simpa using this
   have ht' : t < a.tmps.size := hl ▸ ht
   have hx : a.tmps.toList[t]? = some (a.tmps[t]'ht') := by rw [Array.getElem?_toList]; exact Array.getElem?_eq_getElem ht'
   have := h.2 t v (a.tmps[t]'ht') hf hx
   simpa [Array.getD, ht'] using this
 | const v =>
  simp only [evl, Act.eval]
  cases ho : ofVal v with
  | none => exact .u
  | some a => exact VRel.ofVal ho
 | global g => exact .u
 | func f => exact .fn rfl rfl (fun i c v x => by simp at x) (fun i c v x => by simp at x)
inductive Cls where
 | pure | read | alloc | eff | app | pcall | hcall | xcall | call
 deriving DecidableEq
def clsOf (C : Ctx) (op : Op) : Cls :=
 match op with
 | .load .. | .lookup .. => .read
 | .alloc .. | .box .. | .buildSlice .. | .makeSlice .. | .makeMap .. => .alloc
 | .store .. | .mapUpdate .. => .eff
 | .binOp op _ _ (.const (.slice none 0 0)) _ => (match op with | .eql | .neq => .eff | _ => .pure)
 | .call c => match c.callee with
  | .builtin .append => (match C.gd with | true => .app | false => .eff)
  | .builtin .copy | .builtin .clear => .eff
  | .builtin _ => .pure
  | .value (.func f) => if C.pureFn f then .pcall else if C.hFn f then .hcall else if C.xFn f then .xcall else .call
  | _ => .call
 | _ => .pure
def fnOf (C : Ctx) (ev : Operand → AV) (c : Call) : Option (FuncId × List AV) :=
 match c.callee with
 | .value fo => match ev fo with
  | .fn (.func f) first cap => if C.fnok f then some (f, first ++ c.args.toList.map ev ++ cap) else none
  | _ => none
 | _ => none
def callK (C : Ctx) (f : FuncId) (args : List AV) (h : Heap) (K : AV → Heap → Prop) : Prop :=
 match C.pureFn f with
 | true => ∃ r, PRet C.P f args r ∧ K r h
 | false => match C.hFn f with
  | true => (match args.all AV.isPure with | true => ∃ R H, HRet C.P f args R H ∧ ∀ eps, K (R h.dy.length eps) ⟨h.st, h.dy ++ H h.dy.length eps⟩ | false => False)
  | false => match C.xFn f with
   | true => ACalls C.P f args h fun r h' => (∀ (i : Id) (o : AObj), h[i]? = some o → (h'.trunc h.st.length)[i]? = some o) ∧ K r (h'.trunc h.st.length)
   | false => ACalls C.P f args h fun r h' => K r (h'.trunc h.st.length)
def opK (C : Ctx) (ev : Operand → AV) (id : Id) (h : Heap) (op : Op) (K : AV → Heap → Prop) : Prop :=
 match clsOf C op with
 | .pure => pureK C.ti ev op fun v => K v h
 | .read => readK C.ti ev h op fun v => K v h
 | .alloc => allocK C.ti ev id h op K
 | .eff => effK C.ti ev id h op K
 | .app => match op with
  | .call c => appE C.ti ev h c K
  | _ => False
 | .pcall | .hcall | .xcall | .call => match op with
  | .call c => (match fnOf C ev c with | some (f, args) => callK C f args h K | none => yieldK C ev c h K)
  | _ => False
theorem cls_app {C : Ctx} {c : Call} (h : clsOf C (.call c) = .app) : c.callee = .builtin .append := by
 simp only [clsOf] at h
 cases hc : c.callee with
 | builtin b => cases b <;> simp [hc] at h ⊢
 | value fo =>
  simp only [hc] at h
  cases fo with
  | func f => simp only at h; split at h <;> (try split at h) <;> (try split at h) <;> cases h
  | _ => simp at h
 | _ => simp [hc] at h
theorem elemsOf_imp {h0 : Heap} {size : Nat} {x : AV} {K K' : List (List AV) → Prop} (hk : ∀ l, K l → K' l) (h : elemsOf h0 size x K) : elemsOf h0 size x K' := by
 unfold elemsOf at h ⊢
 split at h
 ·split at h
  ·rename_i e
   rw [if_pos e]
   split at h
   ·exact ⟨h.1, hk _ h.2⟩
   ·exact h.elim
  ·exact h.elim
 ·split at h
  ·rename_i e; rw [if_pos e]; exact hk _ h
  ·exact h.elim
 ·exact hk _ h
 ·exact h.elim
theorem appE_eff {ti : TI} {ev : Operand → AV} {h : Heap} {c : Call} {id : Id} {K : AV → Heap → Prop} (hc : c.callee = .builtin .append) (hk : appE ti ev h c K) : effK ti ev id h (.call c) K := by
 unfold appE at hk
 unfold effK
 simp only [hc]
 split at hk
 ·rename_i s x hl
  try simp only [hl]
  split at hk
  ·rename_i e e2 k1 k2
   try simp only [k1, k2]
   split at hk
   ·rename_i d hd
    try simp only [hd]
    split at hk
    ·exact hk.elim
    ·rename_i hz
     rw [if_neg hz]
     refine elemsOf_imp (fun new hn => ?_) hk
     split at hn
     ·rename_i id0 ep sz off len hs
      try simp only [hs]
      split at hn
      ·rename_i hsz
       rw [if_pos hsz]
       obtain ⟨rfl, ho, hb, hk'⟩ := hn
       try simp only [ho]
       refine ⟨by first | exact rfl | trivial, by simpa using hb, fun ep2 => ?_⟩
       have := hk' ep2
       simpa using this
      ·exact hn.elim
     ·exact hn.elim
   ·exact hk.elim
  ·exact hk.elim
 ·exact hk.elim
theorem COk.round {C : Ctx} (ok : COk C) : COk C.round := ⟨ok.tok, ok.fn⟩
section
variable {C : Ctx} {σ : Sg}
theorem fnOf_sound (ok : COk C) {ev : Operand → AV} {ρ : Operand → Value} (hr : OpRel σ ev ρ) {c : Call} {f : FuncId} {args : List AV} (h : fnOf C ev c = some (f, args)) (o : Oper) (ho : o.op = .call c) (w : World) :
  ∃ vs : Array Value, (execOp ρ o).run C.P w = .ok (.enter f vs) w ∧ VRels σ args vs.toList := by
 obtain ⟨dst, op, type, pos, after, guard⟩ := o
 simp only at ho
 subst ho
 unfold fnOf at h
 split at h
 ·rename_i fo hc
  split at h
  ·rename_i g first cap e
   split at h
   ·rename_i hok
    simp only [Option.some.injEq, Prod.mk.injEq] at h
    obtain ⟨rfl, rfl⟩ := h
    have hf := hr fo
    rw [e] at hf
    generalize hv : ρ fo = u at hf
    cases hf with
    | @fn _ _ _ _ first' cap' l1 l2 v1 v2 =>
     obtain ⟨fn, h1, h2, h3⟩ := ok.fn _ hok
     refine ⟨(first' ++ c.args.map ρ) ++ cap', ?_, ?_⟩
     ·have h2' : ¬ fn.name = "runtime.NumGoroutine" := by simpa using h2
      have h3' : ¬ fn.body = none := by intro e; rw [e] at h3; cases h3
      simp [execOp, resolve, hc, hv, Deferred.ofValue, invoke, callFunc, h1, h2', h3']
     ·simp only [Array.toList_append, Array.toList_map]
      exact ((VRels.append ⟨by simpa using l1, fun i c v x y => v1 i c v x (by simpa using y)⟩ (vrels_map hr c.args.toList)).append ⟨by simpa using l2, fun i c v x y => v2 i c v x (by simpa using y)⟩)
   ·cases h
  ·cases h
 ·cases h
theorem callK_use {f : FuncId} {args : List AV} {h : Heap} {K : AV → Heap → Prop} (hk : callK C f args h K) {w : World} (s : Sim σ h w) {vs : Array Value} (hv : VRels σ args vs.toList) :
  Calls C.P f vs w fun e w' => ∃ v, e = .returned v ∧ ∃ σ' h' r, K r h' ∧ Mv σ h w σ' h' w' ∧ VRel σ' r v := by
 unfold callK at hk
 split at hk
 ·obtain ⟨r0, hr0, hk⟩ := hk
  refine (hr0.out.use s hv).mono ?_
  rintro e w' ⟨v, rfl, σ', r, k, m, x⟩
  subst k
  exact ⟨v, rfl, σ', h, _, hk, m, x⟩
 ·split at hk
  ·split at hk
   ·rename_i hp
    obtain ⟨R, H, hr0, hk⟩ := hk
    refine (hr0.use hp s hv).mono ?_
    rintro e w' ⟨v, rfl, eps, σ', m, x⟩
    exact ⟨v, rfl, σ', _, _, hk eps, m, x⟩
   ·exact hk.elim
  split at hk
  ·refine (hk.use σ w vs s hv).mono ?_
   rintro e w' ⟨v, rfl, σ', h', r, ⟨_, k⟩, m, x⟩
   exact ⟨v, rfl, σ', h'.trunc h.st.length, r, k, m.trans (m.sim.forget fun i o ho => .inr (Heap.trunc_get ho)), x⟩
  ·refine (hk.use σ w vs s hv).mono ?_
   rintro e w' ⟨v, rfl, σ', h', r, k, m, x⟩
   exact ⟨v, rfl, σ', h'.trunc h.st.length, r, k, m.trans (m.sim.forget fun i o ho => .inr (Heap.trunc_get ho)), x⟩
theorem op_sound (ok : COk C) {rd : Option Nat} (hy : YOk C σ) {fr : List AV} {a : Act} (hfr : VRels σ fr a.tmps.toList) {h : Heap} {w : World} (s : Sim σ h w) (id : Id) (o : Oper) {K : AV → Heap → Prop} (hk : opK C (evl fr) id h o.op K)
  {next : Act → World → Prop} {Q : Exit → Act → World → Prop} (hnext : ∀ v r σ' h' w', K r h' → Mv σ h w σ' h' w' → VRel σ' r v → next (a.put o.dst v) w') : o.wpIn (FR rd) 0 C.P a w next Q := by
 have hr := evl_rel hfr
 have hab : ∀ f, o.about C.P w a.eval = some f → (FR rd).fn f := fun _ _ => trivial
 have hdep : (FR rd).depth.isSome = true → 1 ≤ 0 := fun x => by cases x
 unfold opK at hk
 have hcall : ∀ c, o.op = .call c → (match fnOf C (evl fr) c with | some (f, args) => callK C f args h K | none => yieldK C (evl fr) c h K) → o.wpIn (FR rd) 0 C.P a w next Q := by
  intro c ho hk
  refine ⟨hab, ?_⟩
  rw [Oper.semAt_eq _ _ _ (by intro c'; rw [ho]; simp)]
  split at hk
  ·rename_i f args hf
   obtain ⟨vs, h1, h2⟩ := fnOf_sound ok hr hf o ho w
   rw [h1, Oper.uponIn_enter]
   refine ⟨hdep, callsFR ((callK_use hk s h2).mono ?_)⟩
   rintro e w' ⟨v, rfl, σ', h', r, k, m, x⟩
   exact hnext v r σ' h' w' k m x
  ·unfold yieldK at hk
   split at hk
   ·rename_i fo hc
    split at hk
    ·rename_i l e
     split at hk
     ·rename_i y hyl
      obtain ⟨rfl, hsz, hk⟩ := hk
      have hyo := hy y hyl
      have hf := hr fo
      rw [e] at hf
      generalize hv : a.eval fo = u at hf
      cases hf with
      | @fn _ _ _ _ first' cap' l1 l2 v1 v2 =>
       have e1 : first' = #[] := Array.eq_empty_of_size_eq_zero (by simpa using l1.symm)
       have e2 : cap' = #[] := Array.eq_empty_of_size_eq_zero (by simpa using l2.symm)
       subst e1
       subst e2
       obtain ⟨hl, _⟩ := s.rm _ _ hyo.1
       have hargs : VRels σ (c.args.toList.map (evl fr)) (c.args.map a.eval).toList := by rw [Array.toList_map]; exact vrels_map hr c.args.toList
       have hrun := run_yield (P := C.P) (args := c.args.map a.eval) hl (by simpa using hsz)
       have hx : (execOp a.eval o).run C.P w = .ok (.round y.l y.rc.fn ((y.rc.params.zip (c.args.map a.eval)).foldl (fun tmps (t, a) => tmps.setIfInBounds t a) y.rc.tmps) y.rc.assign y.rc.body) w := by
        obtain ⟨dst, op, type, pos, after, guard⟩ := o
        simp only at ho
        subst ho
        simp [execOp, resolve, hc, hv, Deferred.ofValue, invoke, hrun]
       rw [hx, Oper.uponIn_round]
       refine ⟨hdep, round_sound hyo s hargs hk fun h' σ' w' k m => ?_⟩
       exact hnext _ _ σ' h' w' k m .bool
     ·exact hk.elim
    ·exact hk.elim
   ·exact hk.elim
 have hnd : ∀ {r : Result Next}, (∀ c, o.op ≠ .defer c) → (execOp a.eval o).run C.P w = r → o.uponIn (FR rd) 0 C.P a next Q r → o.wpIn (FR rd) 0 C.P a w next Q := fun h1 h2 h3 => ⟨hab, by rw [Oper.semAt_eq _ _ _ h1, h2]; exact h3⟩
 split at hk
 ·obtain ⟨v, r, h1, h2, h3⟩ := pure_sound ok.tok hr o hk w
  refine hnd (fun c e => by rw [e] at hk; exact hk) h1 ?_
  rw [Oper.uponIn_value]
  exact hnext v r σ h w h3 (.refl s) h2
 ·obtain ⟨v, r, h1, h2, h3⟩ := read_sound ok.tok hr s o hk
  refine hnd (fun c e => by rw [e] at hk; exact hk) h1 ?_
  rw [Oper.uponIn_value]
  exact hnext v r σ h w h3 (.refl s) h2
 ·obtain ⟨v, r, σ', h', w', h1, h2, h3, h4⟩ := alloc_sound ok.tok hr s id o hk
  refine hnd (fun c e => by rename_i hc; rw [e] at hc; cases hc) h1 ?_
  rw [Oper.uponIn_value]
  exact hnext v r σ' h' w' h4 h2 h3
 ·obtain ⟨n, v, r, σ', h', w', h1, h2, h3, h4, h5⟩ := eff_sound ok.tok hr s id o hk
  refine hnd (fun c e => by rename_i hc; rw [e] at hc; cases hc) h1 ?_
  rcases h2 with rfl | ⟨rfl, rfl⟩
  ·exact hnext v r σ' h' w' h5 h3 h4
  ·exact hnext undef r σ' h' w' h5 h3 h4
 ·rename_i hc
  split at hk
  ·rename_i c hop
   have hcl := hc
   rw [hop] at hcl
   obtain ⟨n, v, r, σ', h', w', h1, h2, h3, h4, h5⟩ := eff_sound ok.tok hr s id o (by rw [hop]; exact appE_eff (id := id) (cls_app hcl) hk)
   refine hnd (fun c e => by rw [e] at hop; cases hop) h1 ?_
   rcases h2 with rfl | ⟨rfl, rfl⟩
   ·exact hnext v r σ' h' w' h5 h3 h4
   ·exact hnext undef r σ' h' w' h5 h3 h4
  ·exact hk.elim
 ·split at hk
  ·rename_i c hc; exact hcall c hc hk
  ·exact hk.elim
 ·split at hk
  ·rename_i c hc; exact hcall c hc hk
  ·exact hk.elim
 ·split at hk
  ·rename_i c hc; exact hcall c hc hk
  ·exact hk.elim
 ·split at hk
  ·rename_i c hc; exact hcall c hc hk
  ·exact hk.elim
def putF (fr : List AV) (dst : Option Tmp) (v : AV) : List AV :=
 match dst with
 | some d => fr.set d v
 | none => fr
theorem putF_rel {fr : List AV} {a : Act} (h : VRels σ fr a.tmps.toList) {dst : Option Tmp} {r : AV} {v : Value} (hv : VRel σ r v) : VRels σ (putF fr dst r) (a.put dst v).tmps.toList := by
 cases dst with
 | none => exact h
 | some d =>
  refine ⟨by simp [putF, Act.put]; simpa using h.1, fun i c u x y => ?_⟩
  simp only [putF, Act.put, Array.toList_setIfInBounds] at x y
  by_cases hi : i = d
  ·subst hi
   rw [List.getElem?_set_self'] at x y
   cases hx : fr[i]? with
   | none => simp [hx] at x
   | some _ =>
    cases hy : a.tmps.toList[i]? with
    | none => simp only [hy] at y; cases y
    | some _ =>
     simp [hx] at x
     simp only [hy] at y
     cases y
     subst x
     exact hv
  ·rw [List.getElem?_set_ne (Ne.symm hi)] at x y
   exact h.2 i c u x y
theorem undef_rel {σ : Sg} : VRel σ (.tup []) undef := .tup rfl fun i c v x => by simp at x
def wantA (ops : Array Oper) (o : Oper) (fr : List AV) : Option Bool :=
 match o.guard with
 | none => some true
 | some (j, want) => match (ops[j]?).bind (·.dst) with
  | some d => match fr[d]? with
   | some (.bool b) => some (b == want)
   | some (.tup []) => some false
   | _ => none
  | none => none
theorem wantA_sound {ops : Array Oper} {o : Oper} {fr : List AV} {a : Act} (h : VRels σ fr a.tmps.toList) {b : Bool} (hb : wantA ops o fr = some b) : Region.wanted o (yielded ops a.tmps) = b := by
 unfold wantA at hb
 unfold Region.wanted
 split at hb
 ·rename_i hg; simp only [hg]; exact Option.some.inj hb
 ·rename_i j want hg
  simp only [hg]
  unfold yielded
  split at hb
  ·rename_i d hd
   simp only [hd, Option.bind_some]
   split at hb
   ·rename_i c hc
    have hl : fr.length = a.tmps.size := by have := h.1; simpa using this
    have hlt := (List.getElem?_eq_some_iff.1 hc).1
    have hv := h.2 d _ (a.tmps[d]'(by omega)) hc (by simp)
    have e : a.tmps[d]? = some (a.tmps[d]'(by omega)) := by simp
    rw [e]
    generalize a.tmps[d]'(by omega) = u at hv
    cases hv
    cases hb
    cases c <;> cases want <;> rfl
   ·rename_i hc
    have hl : fr.length = a.tmps.size := by have := h.1; simpa using this
    have hlt := (List.getElem?_eq_some_iff.1 hc).1
    have hv := h.2 d _ (a.tmps[d]'(by omega)) hc (by simp)
    have e : a.tmps[d]? = some (a.tmps[d]'(by omega)) := by simp
    rw [e]
    generalize a.tmps[d]'(by omega) = u at hv
    cases hv
    cases hb
    cases want <;> rfl
   ·cases hb
  ·cases hb
def runOrd (C : Ctx) (ops : Array Oper) (slot : Nat → Id) : List Nat → List AV → Heap → (List AV → Heap → Prop) → Prop
 | [], fr, h, K => K fr h
 | i :: r, fr, h, K =>
  match ops[i]? with
  | none => False
  | some o => match wantA ops o fr with
   | some true => opK C (evl fr) (slot i) h o.op fun v h' => runOrd C ops slot r (putF fr o.dst v) h' K
   | some false => runOrd C ops slot r (putF fr o.dst (.tup [])) h K
   | none => False
theorem runOrd_sound (ok : COk C) {rd : Option Nat} {ops : Array Oper} {slot : Nat → Id} {Q : Exit → Act → World → Prop} : ∀ (ord : List Nat) {σ : Sg} {fr : List AV} {a : Act} {h : Heap} {w : World} {K : List AV → Heap → Prop},
  YOk C σ → VRels σ fr a.tmps.toList → Sim σ h w → runOrd C ops slot ord fr h K →
  (∀ fr' h' σ' a' w', K fr' h' → Mv σ h w σ' h' w' → VRels σ' fr' a'.tmps.toList → a'.defers = a.defers → Q .normal a' w') → wpOpsIn (FR rd) 0 C.P ops Q ord a w := by
 intro ord
 induction ord with
 | nil =>
  intro σ fr a h w K hy hfr s hk hQ
  exact hQ fr h σ a w hk (.refl s) hfr rfl
 | cons i r ih =>
  intro σ fr a h w K hy hfr s hk hQ
  unfold runOrd at hk
  unfold wpOpsIn
  split at hk
  ·exact hk.elim
  ·rename_i o ho
   simp only [ho]
   split at hk
   ·rename_i hw
    rw [wantA_sound hfr hw]
    refine op_sound ok hy hfr s (slot i) o hk fun v x σ' h' w' k m hv => ?_
    refine ih (hy.mono m.le) (putF_rel (hfr.mono m.le) hv) m.sim k fun fr' h'' σ'' a' w'' k2 m2 hv2 hd => ?_
    exact hQ fr' h'' σ'' a' w'' k2 (m.trans m2) hv2 (hd.trans (by cases o.dst <;> rfl))
   ·rename_i hw
    rw [wantA_sound hfr hw]
    simp only [Bool.false_eq_true, if_false]
    refine ⟨fun _ _ => trivial, ?_⟩
    refine ih hy (putF_rel hfr undef_rel) s hk fun fr' h'' σ'' a' w'' k2 m2 hv2 hd => ?_
    exact hQ fr' h'' σ'' a' w'' k2 m2 hv2 (hd.trans (by cases o.dst <;> rfl))
   ·exact hk.elim
end
end Go.Ab

namespace Go.Ab
theorem aOff_mono {K K' : AV → Prop} (hk : ∀ v, K v → K' v) {n : Nat} {x : AV} (h : aOff K n x) : aOff K' n x := by
 cases x <;> first | exact hk _ h | exact h
theorem binInt_mono {K K' : AV → Prop} (hk : ∀ v, K v → K' v) {op : BinOp} {k : IntKind} {a b : Int} (h : binInt op k a b K) : binInt op k a b K' := by
 cases op <;> simp only [binInt] at h ⊢ <;> first | exact hk _ h | exact ⟨h.1, hk _ h.2⟩ | exact h
theorem eqCK_mono {ti : TI} : ∀ {l : List (Nat × Nat)} {a b : List AV} {K K' : Bool → Prop}, (∀ v, K v → K' v) → eqCK ti l a b K → eqCK ti l a b K' := by
 intro l
 induction l with
 | nil => intro a b K K' hk h; simp only [eqCK] at h ⊢; exact hk _ h
 | cons f l ih =>
  intro a b K K' hk h
  cases a with
  | nil => simp [eqCK] at h
  | cons x a => cases b with
   | nil => simp [eqCK] at h
   | cons y b =>
    simp only [eqCK] at h ⊢
    split at h
    ·split at h
     ·rename_i e; rw [if_pos e]; exact ih (fun r => hk _) h
     ·exact h.elim
    ·exact ih (fun r => hk _) h
    ·exact h.elim
theorem eqAK_mono {ti : TI} {t : Nat} {a b : List AV} {K K' : Bool → Prop} (hk : ∀ v, K v → K' v) (h : eqAK ti t a b K) : eqAK ti t a b K' := by
 unfold eqAK at h ⊢
 split at h
 ·split at h
  ·exact eqCK_mono hk h
  ·exact eqCK_mono hk h
  ·exact h.elim
 ·exact h.elim
theorem binK_mono {K K' : AV → Prop} (hk : ∀ v, K v → K' v) {ti : TI} {op : BinOp} {t : Nat} {x y : AV} (h : binK ti op t x y K) : binK ti op t x y K' := by
 unfold binK at h ⊢
 split at h
 ·exact ⟨h.1, hk _ h.2⟩
 ·exact ⟨h.1, hk _ h.2⟩
 ·split at h
  ·rename_i e; rw [if_pos e]; exact binInt_mono hk h
  ·exact h.elim
 ·exact ⟨h.1, hk _ h.2⟩
 ·exact ⟨h.1, hk _ h.2⟩
 ·exact eqAK_mono (fun r => hk _) h
 ·exact eqAK_mono (fun r => hk _) h
 ·refine ⟨h.1, ?_⟩
  have h2 := h.2
  split at h2
  ·rename_i e; rw [if_pos e]; exact hk _ h2
  ·rename_i e
   rw [if_neg e]
   split at h2
   ·exact hk _ h2
   ·exact h2.elim
 ·refine ⟨h.1, ?_⟩
  have h2 := h.2
  split at h2
  ·rename_i e; rw [if_pos e]; exact hk _ h2
  ·rename_i e
   rw [if_neg e]
   split at h2
   ·exact hk _ h2
   ·exact h2.elim
 ·exact h.elim
theorem unK_mono {K K' : AV → Prop} (hk : ∀ v, K v → K' v) {op : UnOp} {x : AV} (h : unK op x K) : unK op x K' := by
 unfold unK at h ⊢; split at h <;> first | exact hk _ h | exact h.elim
theorem extK_mono {K K' : AV → Prop} (hk : ∀ v, K v → K' v) {vs : List AV} {n : Nat} (h : extK vs n K) : extK vs n K' := by
 unfold extK at h ⊢; split at h <;> first | exact hk _ h | exact h.elim
theorem minK_mono {K K' : AV → Prop} (hk : ∀ v, K v → K' v) {mx : Bool} : ∀ {l : List AV} {x : AV}, minK mx l x K → minK mx l x K' := by
 intro l
 induction l with
 | nil => intro x h; exact hk _ h
 | cons y r ih =>
  intro x h
  simp only [minK] at h ⊢
  split at h
  ·split at h
   ·rename_i e; rw [if_pos e]; exact ih h
   ·exact h.elim
  ·exact h.elim
theorem sliceGo_mono {K K' : AV → Prop} (hk : ∀ v, K v → K' v) {lo hi mx : Option AV} {len : Nat} {f : Nat → Nat → Bool → AV} (h : sliceGo lo hi mx K len f) : sliceGo lo hi mx K' len f := by
 unfold sliceGo at h ⊢
 split at h <;> first | exact hk _ h | exact ⟨h.1, hk _ h.2⟩ | exact h.elim
theorem sliceK_mono {K K' : AV → Prop} (hk : ∀ v, K v → K' v) {x : AV} {lo hi mx : Option AV} (h : sliceK x lo hi mx K) : sliceK x lo hi mx K' := by
 unfold sliceK at h ⊢
 split at h <;> first | exact sliceGo_mono hk h | exact h.elim
theorem idxK_mono {K K' : AV → Prop} (hk : ∀ v, K v → K' v) {size : Nat} {n : Int} {x : AV} (h : idxK size n K x) : idxK size n K' x := by
 unfold idxK at h ⊢
 split at h
 ·split at h
  ·rename_i e; rw [if_pos e]; exact ⟨h.1, hk _ h.2⟩
  ·exact h.elim
 ·split at h
  ·rename_i e; rw [if_pos e]; exact ⟨h.1, hk _ h.2⟩
  ·exact h.elim
 ·exact h.elim
theorem fillK_mono {K K' : List AV → Prop} (hk : ∀ v, K v → K' v) {place : Nat → Option (Nat × Nat)} : ∀ {parts : List (Nat × AV)} {cells : List AV}, fillK place cells parts K → fillK place cells parts K' := by
 intro parts
 induction parts with
 | nil => intro cells h; exact hk _ h
 | cons p r ih =>
  intro cells h
  obtain ⟨i, v⟩ := p
  unfold fillK at h ⊢
  split at h
  ·split at h
   ·rename_i e1 e2 e3
    simp only [e1, e2, e3, and_self, if_true]
    exact ih h
   ·exact h.elim
  ·exact h.elim
theorem pureK_mono {ti : TI} {ev : Operand → AV} {op : Op} {K K' : AV → Prop} (hk : ∀ v, K v → K' v) (h : pureK ti ev op K) : pureK ti ev op K' := by
 unfold pureK at h ⊢
 split at h
 ·exact hk _ h
 ·exact hk _ h
 ·skip
  split at h
  ·split at h <;> exact hk _ h
  ·exact h.elim
 ·skip
  split at h
  ·rename_i e; rw [if_pos e]; exact hk _ h
  ·rename_i e
   rw [if_neg e]
   split at h
   ·exact hk _ h
   ·exact h.elim
 ·exact binK_mono hk h
 ·exact unK_mono hk h
 ·skip
  split at h <;> first | exact hk _ h | exact h.elim
 ·skip
  split at h
  ·split at h
   ·split at h
    ·split at h
     ·exact h.elim
     ·rename_i e1 e2 e3 e4; rw [if_neg e4]; exact aOff_mono hk h
    ·exact h.elim
   ·exact h.elim
  ·exact h.elim
 ·skip
  split at h
  ·split at h
   ·split at h
    ·split at h
     ·exact hk _ h
     ·exact h.elim
    ·exact h.elim
   ·exact h.elim
  ·exact h.elim
 ·skip
  split at h
  ·split at h
   ·exact idxK_mono hk h
   ·exact h.elim
  ·split at h
   ·exact ⟨h.1, aOff_mono hk h.2⟩
   ·exact h.elim
  ·exact h.elim
 ·skip
  split at h
  ·split at h
   ·refine ⟨h.1, ?_⟩
    have h2 := h.2
    split at h2
    ·exact hk _ h2
    ·exact h2.elim
   ·exact h.elim
  ·exact ⟨h.1, hk _ h.2⟩
  ·exact h.elim
 ·skip
  split at h
  ·exact extK_mono hk h
  ·exact h.elim
 ·skip
  split at h
  ·split at h
   ·split at h
    ·rename_i e; rw [if_pos e]; exact sliceK_mono hk h
    ·exact h.elim
   ·exact h.elim
  ·exact h.elim
 ·skip
  split at h
  ·split at h
   ·split at h
    ·exact h.elim
    ·rename_i e; rw [if_neg e]; exact fillK_mono (fun cs => hk _) h
   ·split at h
    ·exact fillK_mono (fun cs => hk _) h
    ·exact h.elim
   ·exact h.elim
  ·exact h.elim
 ·exact hk _ h
 ·skip
  split at h
  ·split at h <;> first | exact hk _ h | exact h.elim
  ·exact minK_mono hk h
  ·exact minK_mono hk h
  ·exact h.elim
 ·exact h.elim
theorem rowK_mono {d : TD} {r : Option (List AV)} {off : Nat} {K K' : AV → Prop} (hk : ∀ v, K v → K' v) (h : rowK d r off K) : rowK d r off K' := by
 unfold rowK at h ⊢
 split at h
 ·split at h
  ·exact hk _ h
  ·exact h.elim
 ·exact h.elim
theorem readK_mono {ti : TI} {ev : Operand → AV} {h0 : Heap} {op : Op} {K K' : AV → Prop} (hk : ∀ v, K v → K' v) (h : readK ti ev h0 op K) : readK ti ev h0 op K' := by
 unfold readK at h ⊢
 split at h
 ·skip
  split at h
  ·exact h.elim
  ·split at h
   ·split at h
    ·exact ⟨h.1, rowK_mono hk h.2⟩
    ·exact h.elim
   ·exact rowK_mono hk h
   ·exact h.elim
 ·exact lookK_mono hk h
 ·exact h.elim
theorem allocK_mono {ti : TI} {ev : Operand → AV} {id : Id} {h0 : Heap} {op : Op} {K K' : AV → Heap → Prop} (hk : ∀ v h, K v h → K' v h) (h : allocK ti ev id h0 op K) : allocK ti ev id h0 op K' := by
 unfold allocK at h ⊢
 split at h
 ·exact h.elim
 ·exact h.elim
 ·exact h.elim
 ·skip
  split at h
  ·skip
   split at h
   ·exact fun ep => hk _ _ (h ep)
   ·exact h.elim
  ·skip
   split at h
   ·split at h
    ·rename_i e; rw [if_pos e]; exact fun ep => hk _ _ (h ep)
    ·exact h.elim
   ·exact h.elim
  ·skip
   split at h
   ·split at h
    ·split at h
     ·exact h.elim
     ·rename_i e; rw [if_neg e]; exact fillK_mono (fun cs x ep => hk _ _ (x ep)) h
    ·exact h.elim
   ·exact h.elim
  ·skip
   split at h
   ·split at h
    ·exact ⟨h.1, fun ep => hk _ _ (h.2 ep)⟩
    ·exact h.elim
   ·exact h.elim
  ·exact fun ep => hk _ _ (h ep)
  ·exact h.elim
theorem elemsOf_mono {h0 : Heap} {size : Nat} {x : AV} {K K' : List (List AV) → Prop} (hk : ∀ l, K l → K' l) (h : elemsOf h0 size x K) : elemsOf h0 size x K' := by
 unfold elemsOf at h ⊢
 split at h
 ·split at h
  ·rename_i e
   rw [if_pos e]
   split at h
   ·exact ⟨h.1, hk _ h.2⟩
   ·exact h.elim
  ·exact h.elim
 ·split at h
  ·rename_i e; rw [if_pos e]; exact hk _ h
  ·exact h.elim
 ·exact hk _ h
 ·exact h.elim
theorem nilEqK_mono {x : AV} {K K' : Bool → Prop} (hk : ∀ b, K b → K' b) (h : nilEqK x K) : nilEqK x K' := by
 unfold nilEqK at h ⊢
 split at h
 ·exact hk _ h
 ·exact ⟨fun e => hk _ (h.1 e), hk _ h.2⟩
 ·exact ⟨fun e => hk _ (h.1 e), hk _ h.2⟩
 ·exact h.elim
theorem effK_mono {ti : TI} {ev : Operand → AV} {id : Id} {h0 : Heap} {op : Op} {K K' : AV → Heap → Prop} (hk : ∀ v h, K v h → K' v h) (h : effK ti ev id h0 op K) : effK ti ev id h0 op K' := by
 unfold effK at h ⊢
 split at h
 ·skip
  split at h
  ·split at h
   ·rename_i e
    rw [if_pos e]
    split at h
    ·split at h
     ·refine ⟨h.1, ?_⟩
      have h2 := h.2
      split at h2
      ·split at h2
       ·rename_i e; rw [if_pos e]; rw [forceL_eq] at h2 ⊢; exact hk _ _ h2
       ·exact h2.elim
      ·exact h2.elim
     ·exact h.elim
    ·exact h.elim
   ·exact h.elim
  ·exact h.elim
 ·skip
  split at h
  ·skip
   split at h
   ·skip
    split at h
    ·split at h
     ·exact h.elim
     ·rename_i e
      rw [if_neg e]
      refine elemsOf_mono (fun new x => ?_) h
      split at x
      ·split at x
       ·rename_i e
        rw [if_pos e]
        split at x
        ·exact ⟨x.1, x.2.1, fun ep => hk _ _ (x.2.2 ep)⟩
        ·exact x.elim
       ·exact x.elim
      ·split at x
       ·exact x.elim
       ·rename_i e; rw [if_neg e]; exact ⟨x.1, fun ep => hk _ _ (x.2 ep)⟩
      ·split at x
       ·exact x.elim
       ·rename_i e; rw [if_neg e]; exact ⟨x.1, fun ep => hk _ _ (x.2 ep)⟩
      ·split at x
       ·exact x.elim
       ·rename_i e; rw [if_neg e]; exact ⟨x.1, fun ep => hk _ _ (x.2 ep)⟩
      ·exact x.elim
    ·exact h.elim
   ·exact h.elim
  ·skip
   split at h
   ·skip
    split at h
    ·refine elemsOf_mono (fun new x => ?_) h
     split at x
     ·split at x
      ·rename_i e
       rw [if_pos e]
       split at x
       ·exact ⟨x.1, hk _ _ x.2⟩
       ·exact x.elim
      ·exact x.elim
     ·exact x.elim
    ·exact h.elim
   ·exact h.elim
  ·skip
   split at h
   ·skip
    split at h
    ·skip
     split at h
     ·split at h
      ·rename_i e
       rw [if_pos e]
       split at h
       ·exact ⟨h.1, hk _ _ h.2⟩
       ·exact h.elim
      ·exact h.elim
     ·exact h.elim
    ·exact h.elim
   ·exact h.elim
  ·exact h.elim
 ·split at h
  ·split at h
   ·exact nilEqK_mono (fun b x => hk _ _ x) h
   ·exact nilEqK_mono (fun b x => hk _ _ x) h
   ·exact h.elim
  ·exact h.elim
 ·exact updK_mono hk h
 ·exact h.elim
theorem callK_mono {C : Ctx} {f : FuncId} {args : List AV} {h0 : Heap} {K K' : AV → Heap → Prop} (hk : ∀ v h, K v h → K' v h) (h : callK C f args h0 K) : callK C f args h0 K' := by
 unfold callK at h ⊢
 split at h
 ·obtain ⟨r, h1, h2⟩ := h; exact ⟨r, h1, hk _ _ h2⟩
 ·split at h
  ·split at h
   ·obtain ⟨R, H, h1, h2⟩ := h; exact ⟨R, H, h1, fun eps => hk _ _ (h2 eps)⟩
   ·exact h.elim
  ·split at h
   ·exact h.mono fun r h' q => ⟨q.1, hk _ _ q.2⟩
   ·exact h.mono fun r h' => hk _ _
theorem appE_mono {ti : TI} {ev : Operand → AV} {h0 : Heap} {c : Call} {K K' : AV → Heap → Prop} (hk : ∀ v h, K v h → K' v h) (h : appE ti ev h0 c K) : appE ti ev h0 c K' := by
 unfold appE at h ⊢
 split at h
 ·split at h
  ·split at h
   ·split at h
    ·exact h.elim
    ·rename_i hz
     rw [if_neg hz]
     refine elemsOf_mono (fun new hn => ?_) h
     split at hn
     ·split at hn
      ·rename_i hsz
       rw [if_pos hsz]
       exact ⟨hn.1, hn.2.1, hn.2.2.1, fun ep2 => hk _ _ (hn.2.2.2 ep2)⟩
      ·exact hn.elim
     ·exact hn.elim
   ·exact h.elim
  ·exact h.elim
 ·exact h.elim
theorem opK_mono {C : Ctx} {ev : Operand → AV} {id : Id} {h0 : Heap} {op : Op} {K K' : AV → Heap → Prop} (hk : ∀ v h, K v h → K' v h) (h : opK C ev id h0 op K) : opK C ev id h0 op K' := by
 unfold opK at h ⊢
 split at h
 ·exact pureK_mono (fun v => hk v h0) h
 ·exact readK_mono (fun v => hk v h0) h
 ·exact allocK_mono hk h
 ·exact effK_mono hk h
 ·split at h
  ·exact appE_mono hk h
  ·exact h.elim
 ·skip
  split at h
  ·split at h
   ·exact callK_mono hk h
   ·exact yieldK_mono hk h
  ·exact h.elim
 ·skip
  split at h
  ·split at h
   ·exact callK_mono hk h
   ·exact yieldK_mono hk h
  ·exact h.elim
 ·skip
  split at h
  ·split at h
   ·exact callK_mono hk h
   ·exact yieldK_mono hk h
  ·exact h.elim
 ·skip
  split at h
  ·split at h
   ·exact callK_mono hk h
   ·exact yieldK_mono hk h
  ·exact h.elim
end Go.Ab

namespace Go.Ab
def Det (F : (AV → Prop) → Prop) : Prop := ∀ K, F K → ∃ v, K v ∧ ∀ K', K' v → F K'
theorem det_of {F : (AV → Prop) → Prop} (hm : ∀ (K K' : AV → Prop), (∀ v, K v → K' v) → F K → F K') (h : ∀ K, F K → ∃ v, K v ∧ F fun x => x = v) : Det F := by
 intro K hk
 obtain ⟨v, h1, h2⟩ := h K hk
 exact ⟨v, h1, fun K' hk' => hm _ _ (fun x (e : x = v) => by subst e; exact hk') h2⟩
theorem aOff_ex {n : Nat} {x : AV} {K : AV → Prop} (h : aOff K n x) : ∃ v, K v ∧ aOff (fun y => y = v) n x := by
 cases x <;> first | exact ⟨_, h, rfl⟩ | exact h.elim
theorem binInt_ex {op : BinOp} {k : IntKind} {a b : Int} {K : AV → Prop} (h : binInt op k a b K) : ∃ v, K v ∧ binInt op k a b fun y => y = v := by
 cases op <;> simp only [binInt] at h ⊢ <;> first | exact ⟨_, h, rfl⟩ | exact ⟨_, h.2, h.1, rfl⟩ | exact h.elim
theorem eqCK_ex {ti : TI} : ∀ {l : List (Nat × Nat)} {a b : List AV} {K : Bool → Prop}, eqCK ti l a b K → ∃ v, K v ∧ eqCK ti l a b fun z => z = v := by
 intro l
 induction l with
 | nil => intro a b K h; simp only [eqCK] at h ⊢; exact ⟨_, h, rfl⟩
 | cons f l ih =>
  intro a b K h
  cases a with
  | nil => simp [eqCK] at h
  | cons x a => cases b with
   | nil => simp [eqCK] at h
   | cons y b =>
    simp only [eqCK] at h ⊢
    split at h
    ·split at h
     ·rename_i e
      obtain ⟨v, h1, h2⟩ := ih h
      exact ⟨_, h1, by rw [if_pos e]; exact eqCK_mono (fun r (hr : r = v) => by rw [hr]) h2⟩
     ·exact h.elim
    ·obtain ⟨v, h1, h2⟩ := ih h
     exact ⟨_, h1, eqCK_mono (fun r (hr : r = v) => by rw [hr]) h2⟩
    ·exact h.elim
theorem eqAK_ex {ti : TI} {t : Nat} {a b : List AV} {K : Bool → Prop} (h : eqAK ti t a b K) : ∃ v, K v ∧ eqAK ti t a b fun z => z = v := by
 unfold eqAK at h ⊢
 split at h
 ·split at h
  ·exact eqCK_ex h
  ·exact eqCK_ex h
  ·exact h.elim
 ·exact h.elim
theorem binK_ex {ti : TI} {op : BinOp} {t : Nat} {x y : AV} {K : AV → Prop} (h : binK ti op t x y K) : ∃ v, K v ∧ binK ti op t x y fun z => z = v := by
 unfold binK at h ⊢
 split at h
 ·exact ⟨_, h.2, h.1, rfl⟩
 ·exact ⟨_, h.2, h.1, rfl⟩
 ·split at h
  ·rename_i e; simp only [if_pos e]; exact binInt_ex h
  ·exact h.elim
 ·exact ⟨_, h.2, h.1, rfl⟩
 ·exact ⟨_, h.2, h.1, rfl⟩
 ·obtain ⟨v, h1, h2⟩ := eqAK_ex h
  exact ⟨_, h1, eqAK_mono (fun r (hr : r = v) => by rw [hr]) h2⟩
 ·obtain ⟨v, h1, h2⟩ := eqAK_ex h
  exact ⟨_, h1, eqAK_mono (fun r (hr : r = v) => by rw [hr]) h2⟩
 ·obtain ⟨h1, h2⟩ := h
  split at h2
  ·rename_i e; simp only [if_pos e]; exact ⟨_, h2, h1, rfl⟩
  ·rename_i e
   simp only [if_neg e]
   split at h2
   ·exact ⟨_, h2, h1, rfl⟩
   ·exact h2.elim
 ·obtain ⟨h1, h2⟩ := h
  split at h2
  ·rename_i e; simp only [if_pos e]; exact ⟨_, h2, h1, rfl⟩
  ·rename_i e
   simp only [if_neg e]
   split at h2
   ·exact ⟨_, h2, h1, rfl⟩
   ·exact h2.elim
 ·exact h.elim
theorem unK_ex {op : UnOp} {x : AV} {K : AV → Prop} (h : unK op x K) : ∃ v, K v ∧ unK op x fun y => y = v := by
 unfold unK at h ⊢; split at h <;> first | exact ⟨_, h, rfl⟩ | exact h.elim
theorem extK_ex {vs : List AV} {n : Nat} {K : AV → Prop} (h : extK vs n K) : ∃ v, K v ∧ extK vs n fun y => y = v := by
 unfold extK at h ⊢; split at h <;> first | exact ⟨_, h, rfl⟩ | exact h.elim
theorem minK_ex {mx : Bool} {K : AV → Prop} : ∀ {l : List AV} {x : AV}, minK mx l x K → ∃ v, K v ∧ minK mx l x fun y => y = v := by
 intro l
 induction l with
 | nil => intro x h; exact ⟨_, h, rfl⟩
 | cons y r ih =>
  intro x h
  simp only [minK] at h ⊢
  split at h
  ·split at h
   ·rename_i e; simp only [if_pos e]; exact ih h
   ·exact h.elim
  ·exact h.elim
theorem sliceGo_ex {K : AV → Prop} {lo hi mx : Option AV} {len : Nat} {f : Nat → Nat → Bool → AV} (h : sliceGo lo hi mx K len f) : ∃ v, K v ∧ sliceGo lo hi mx (fun y => y = v) len f := by
 unfold sliceGo at h ⊢
 split at h <;> first | exact ⟨_, h, rfl⟩ | exact ⟨_, h.2, h.1, rfl⟩ | exact h.elim
theorem sliceK_ex {K : AV → Prop} {x : AV} {lo hi mx : Option AV} (h : sliceK x lo hi mx K) : ∃ v, K v ∧ sliceK x lo hi mx fun y => y = v := by
 unfold sliceK at h ⊢
 split at h <;> first | exact sliceGo_ex h | exact h.elim
theorem idxK_ex {K : AV → Prop} {size : Nat} {n : Int} {x : AV} (h : idxK size n K x) : ∃ v, K v ∧ idxK size n (fun y => y = v) x := by
 unfold idxK at h ⊢
 split at h
 ·split at h
  ·rename_i e; simp only [if_pos e]; exact ⟨_, h.2, h.1, rfl⟩
  ·exact h.elim
 ·split at h
  ·rename_i e; simp only [if_pos e]; exact ⟨_, h.2, h.1, rfl⟩
  ·exact h.elim
 ·exact h.elim
theorem fillK_ex {K : List AV → Prop} {place : Nat → Option (Nat × Nat)} : ∀ {parts : List (Nat × AV)} {cells : List AV}, fillK place cells parts K → ∃ v, K v ∧ fillK place cells parts fun y => y = v := by
 intro parts
 induction parts with
 | nil => intro cells h; exact ⟨_, h, rfl⟩
 | cons p r ih =>
  intro cells h
  obtain ⟨i, v⟩ := p
  unfold fillK at h ⊢
  split at h
  ·split at h
   ·rename_i e1 e2 e3
    simp only [if_pos e3]
    exact ih h
   ·exact h.elim
  ·exact h.elim
theorem fillK_ex2 {F : List AV → AV} {K : AV → Prop} {place : Nat → Option (Nat × Nat)} {parts : List (Nat × AV)} {cells : List AV} (h : fillK place cells parts fun cs => K (F cs)) :
  ∃ v, K v ∧ fillK place cells parts fun cs => F cs = v := by
 obtain ⟨cs, h1, h2⟩ := fillK_ex h
 exact ⟨F cs, h1, fillK_mono (fun y e => by rw [e]) h2⟩
theorem pure_det (ti : TI) (ev : Operand → AV) (op : Op) : Det (pureK ti ev op) := by
 refine det_of (fun K K' hk h => pureK_mono hk h) fun K h => ?_
 unfold pureK at h ⊢
 split at h
 ·exact ⟨_, h, rfl⟩
 ·exact ⟨_, h, rfl⟩
 ·split at h
  ·split at h <;> exact ⟨_, h, rfl⟩
  ·exact h.elim
 ·split at h
  ·rename_i e; simp only [if_pos e]; exact ⟨_, h, rfl⟩
  ·rename_i e
   simp only [if_neg e]
   split at h
   ·exact ⟨_, h, rfl⟩
   ·exact h.elim
 ·exact binK_ex h
 ·exact unK_ex h
 ·split at h <;> first | exact ⟨_, h, rfl⟩ | exact h.elim
 ·split at h
  ·split at h
   ·split at h
    ·split at h
     ·exact h.elim
     ·rename_i e1 e2 e3 e4; simp only [if_neg e4]; exact aOff_ex h
    ·exact h.elim
   ·exact h.elim
  ·exact h.elim
 ·split at h
  ·split at h
   ·split at h
    ·split at h
     ·exact ⟨_, h, rfl⟩
     ·exact h.elim
    ·exact h.elim
   ·exact h.elim
  ·exact h.elim
 ·split at h
  ·split at h
   ·exact idxK_ex h
   ·exact h.elim
  ·split at h
   ·obtain ⟨v, h1, h2⟩ := aOff_ex h.2
    exact ⟨v, h1, h.1, h2⟩
   ·exact h.elim
  ·exact h.elim
 ·split at h
  ·split at h
   ·obtain ⟨h1, h2⟩ := h
    split at h2
    ·exact ⟨_, h2, h1, rfl⟩
    ·exact h2.elim
   ·exact h.elim
  ·exact ⟨_, h.2, h.1, rfl⟩
  ·exact h.elim
 ·split at h
  ·exact extK_ex h
  ·exact h.elim
 ·split at h
  ·split at h
   ·split at h
    ·rename_i e; simp only [if_pos e]; exact sliceK_ex h
    ·exact h.elim
   ·exact h.elim
  ·exact h.elim
 ·split at h
  ·split at h
   ·split at h
    ·exact h.elim
    ·rename_i e; simp only [if_neg e]; exact fillK_ex2 h
   ·split at h
    ·exact fillK_ex2 h
    ·exact h.elim
   ·exact h.elim
  ·exact h.elim
 ·exact ⟨_, h, rfl⟩
 ·split at h
  ·split at h <;> first | exact ⟨_, h, rfl⟩ | exact h.elim
  ·exact minK_ex h
  ·exact minK_ex h
  ·exact h.elim
 ·exact h.elim
theorem read_det (ti : TI) (ev : Operand → AV) (h0 : Heap) (op : Op) : Det (readK ti ev h0 op) := by
 refine det_of (fun K K' hk h => readK_mono hk h) fun K h => ?_
 have row : ∀ {d : TD} {r : Option (List AV)} {off : Nat}, rowK d r off K → ∃ v, K v ∧ rowK d r off fun y => y = v := by
  intro d r off h
  unfold rowK at h ⊢
  split at h
  ·split at h
   ·exact ⟨_, h, rfl⟩
   ·exact h.elim
  ·exact h.elim
 unfold readK at h ⊢
 split at h
 ·split at h
  ·exact h.elim
  ·split at h
   ·split at h
    ·obtain ⟨v, h1, h2⟩ := row h.2
     exact ⟨v, h1, h.1, h2⟩
    ·exact h.elim
   ·exact row h
   ·exact h.elim
 ·exact lookK_ex h
 ·exact h.elim
theorem read_set {ti : TI} {ev : Operand → AV} {h0 : Heap} {op : Op} {K : AV → Prop} {s : Id} {o : AObj} (hs : h0[s]? = some .hole) (h : readK ti ev h0 op K) : readK ti ev (h0.set s o) op K := by
 unfold readK at h ⊢
 split at h
 ·split at h
  ·exact h.elim
  ·split at h
   ·rename_i id ep sz i off e
    split at h
    ·rename_i ep' rows ho
     have hne : s ≠ id := by rintro rfl; rw [hs] at ho; cases ho
     simp only [Heap.getElem?_set_ne hne, ho]
     exact h
    ·exact h.elim
   ·exact h
   ·exact h.elim
 ·exact lookK_ext (fun i x hx hn _ => by
   have hne : s ≠ i := by rintro rfl; rw [hs] at hx; cases hx; exact hn rfl
   rw [Heap.getElem?_set_ne hne]; exact hx) h
 ·exact h.elim
theorem fillK_det {K : List AV → Prop} {place : Nat → Option (Nat × Nat)} {v : List AV} : ∀ {parts : List (Nat × AV)} {cells : List AV}, (fillK place cells parts fun y => y = v) → fillK place cells parts K → K v := by
 intro parts
 induction parts with
 | nil => intro cells h1 h2; have : cells = v := h1; subst this; exact h2
 | cons p r ih =>
  intro cells h1 h2
  obtain ⟨i, x⟩ := p
  unfold fillK at h1 h2
  split at h1
  ·rename_i off size cs e1 e2
   simp only [e1, e2] at h2
   split at h1
   ·rename_i e; rw [if_pos e] at h2; exact ih h1 h2
   ·exact h1.elim
  ·exact h1.elim
theorem alloc_ex {ti : TI} {ev : Operand → AV} {id : Id} {h0 : Heap} {op : Op} {K : AV → Heap → Prop} (h : allocK ti ev id h0 op K) :
  ∃ mv : Nat → AV, ∃ mo : Nat → AObj, ∀ (h2 : Heap) (K' : AV → Heap → Prop), allocK ti ev id h2 op K' ↔ (h2[id]? = some .hole ∧ ∀ ep, K' (mv ep) (h2.set id (mo ep))) := by
 have hole : ∀ (h2 : Heap) (K' : AV → Heap → Prop), allocK ti ev id h2 op K' → h2[id]? = some .hole := by
  intro h2 K' x
  unfold allocK at x
  split at x
  ·exact x.elim
  ·exact x.elim
  ·exact x.elim
  ·assumption
 have key : ∃ mv : Nat → AV, ∃ mo : Nat → AObj, ∀ (h2 : Heap) (K' : AV → Heap → Prop), h2[id]? = some .hole → (allocK ti ev id h2 op K' ↔ ∀ ep, K' (mv ep) (h2.set id (mo ep))) := by
  have hh := hole h0 K h
  unfold allocK at h
  simp only [hh] at h
  split at h
  ·split at h
   ·rename_i d hd
    exact ⟨_, _, fun h2 K' hh2 => by unfold allocK; simp only [hh2, hd]; exact Iff.rfl⟩
   ·exact h.elim
  ·split at h
   ·rename_i d cs hd hcs
    split at h
    ·rename_i e
     exact ⟨_, _, fun h2 K' hh2 => by unfold allocK; simp only [hh2, hd, hcs, if_pos e]; exact Iff.rfl⟩
    ·exact h.elim
   ·exact h.elim
  ·rename_i t len parts
   split at h
   ·rename_i e1 ek
    split at h
    ·rename_i d hd
     split at h
     ·exact h.elim
     ·rename_i hne
      obtain ⟨cs, h1, h2⟩ := fillK_ex h
      refine ⟨fun ep => .oslc id ep d.size 0 len false, fun ep => .vec ep (chunks d.size len cs), fun h3 K' hh2 => ?_⟩
      unfold allocK
      simp only [hh2, ek, hd, if_neg hne]
      exact ⟨fun x => fillK_det h2 x, fun x => fillK_mono (fun y e ep => by subst e; exact x ep) h2⟩
    ·exact h.elim
   ·exact h.elim
  ·split at h
   ·rename_i e1 k1 n k2 m ek1 ek2 ek3
    split at h
    ·rename_i d hd
     exact ⟨_, _, fun h2 K' hh2 => by unfold allocK; simp only [hh2, ek1, ek2, ek3, hd]; exact ⟨fun x => x.2, fun x => ⟨h.1, x⟩⟩⟩
    ·exact h.elim
   ·exact h.elim
  ·exact ⟨_, _, fun h2 K' hh2 => by unfold allocK; simp only [hh2]; exact Iff.rfl⟩
  ·exact h.elim
 obtain ⟨mv, mo, hk⟩ := key
 exact ⟨mv, mo, fun h2 K' => ⟨fun x => ⟨hole h2 K' x, (hk h2 K' (hole h2 K' x)).1 x⟩, fun x => (hk h2 K' x.1).2 x.2⟩⟩
theorem map_congr_ev {ev ev' : Operand → AV} {l : List Operand} (h : ∀ x ∈ l, ev x = ev' x) : l.map ev = l.map ev' := List.map_congr_left h
theorem pureK_congr {ti : TI} {ev ev' : Operand → AV} {op : Op} {K : AV → Prop} (h : ∀ x ∈ op.operands, ev x = ev' x) : pureK ti ev op K = pureK ti ev' op K := by
 cases op <;> simp only [Op.operands] at h <;> try rfl
 case move x => simp only [pureK, h x (by simp)]
 case assign x => simp only [pureK, h x (by simp)]
 case pick c a b => simp only [pureK, h c (by simp), h a (by simp), h b (by simp)]
 case nilCheck x => simp only [pureK, h x (by simp)]
 case binOp op t x y t2 => simp only [pureK, h x (by simp), h y (by simp)]
 case unOp op t x => simp only [pureK, h x (by simp)]
 case convert s d x => simp only [pureK, h x (by simp)]
 case fieldAddr t x f => simp only [pureK, h x (by simp)]
 case field t x f => simp only [pureK, h x (by simp)]
 case indexAddr t x i => simp only [pureK, h x (by simp), h i (by simp)]
 case index t x i => simp only [pureK, h x (by simp), h i (by simp)]
 case extract x n => simp only [pureK, h x (by simp)]
 case slice t x lo hi mx =>
  have e1 : lo.map ev = lo.map ev' := by cases lo with | none => rfl | some y => simp only [Option.map_some]; rw [h y (by simp)]
  have e2 : hi.map ev = hi.map ev' := by cases hi with | none => rfl | some y => simp only [Option.map_some]; rw [h y (by simp)]
  have e3 : mx.map ev = mx.map ev' := by cases mx with | none => rfl | some y => simp only [Option.map_some]; rw [h y (by simp)]
  simp only [pureK, h x (by simp), e1, e2, e3]
 case build t parts =>
  have e : (parts.toList.map fun p => (p.1, ev p.2)) = parts.toList.map fun p => (p.1, ev' p.2) := List.map_congr_left fun p hp => by
   rw [h p.2 (by simp only [List.mem_toArray, List.mem_map]; exact ⟨p, hp, rfl⟩)]
  simp only [pureK, e]
 case makeFunc fn first cap =>
  have e1 : first.toList.map ev = first.toList.map ev' := map_congr_ev fun x hx => h x (by simp at hx ⊢; exact .inl hx)
  have e2 : cap.toList.map ev = cap.toList.map ev' := map_congr_ev fun x hx => h x (by simp at hx ⊢; exact .inr hx)
  simp only [pureK, e1, e2]
 case call c =>
  simp only [Call.operands] at h
  have ha : ∀ x ∈ c.args.toList, ev x = ev' x := fun x hx => h x (by simp at hx ⊢; exact .inr hx)
  cases hl : c.args.toList with
  | nil => cases hc : c.callee with
   | builtin b => cases b <;> simp only [pureK, hc, hl]
   | _ => simp only [pureK, hc, hl]
  | cons x r =>
   rw [hl] at ha
   have hx := ha x (by simp)
   have hr : r.map ev = r.map ev' := map_congr_ev fun y hy => ha y (by simp [hy])
   cases hc : c.callee with
   | builtin b =>
    cases b <;> try (simp only [pureK, hc, hl]; done)
    case len => cases r with
     | nil => simp only [pureK, hc, hl, hx]
     | cons _ _ => simp only [pureK, hc, hl]
    case min => simp only [pureK, hc, hl, hx, hr]
    case max => simp only [pureK, hc, hl, hx, hr]
   | _ => simp only [pureK, hc, hl]
theorem readK_congr {ti : TI} {ev ev' : Operand → AV} {h0 : Heap} {op : Op} {K : AV → Prop} (h : ∀ x ∈ op.operands, ev x = ev' x) : readK ti ev h0 op K = readK ti ev' h0 op K := by
 cases op <;> simp only [Op.operands] at h <;> try rfl
 case load t p => simp only [readK, h p (by simp)]
 case lookup t m ix okf => simp only [readK, h m (by simp), h ix (by simp)]
theorem allocK_congr {ti : TI} {ev ev' : Operand → AV} {id : Id} {h0 : Heap} {op : Op} {K : AV → Heap → Prop} (h : ∀ x ∈ op.operands, ev x = ev' x) : allocK ti ev id h0 op K = allocK ti ev' id h0 op K := by
 cases op <;> simp only [Op.operands] at h <;> try rfl
 case box t x => simp only [allocK, h x (by simp)]
 case buildSlice t len parts =>
  have e : (parts.toList.map fun p => (p.1, ev p.2)) = parts.toList.map fun p => (p.1, ev' p.2) := List.map_congr_left fun p hp => by
   rw [h p.2 (by simp only [List.mem_toArray, List.mem_map]; exact ⟨p, hp, rfl⟩)]
  simp only [allocK, e]
 case makeSlice t l c => simp only [allocK, h l (by simp), h c (by simp)]
 case makeMap t r => cases r <;> simp only [allocK]
theorem effK_congr {ti : TI} {ev ev' : Operand → AV} {id : Id} {h0 : Heap} {op : Op} {K : AV → Heap → Prop} (h : ∀ x ∈ op.operands, ev x = ev' x) : effK ti ev id h0 op K = effK ti ev' id h0 op K := by
 cases op <;> simp only [Op.operands] at h <;> try rfl
 case store t p v => simp only [effK, h p (by simp), h v (by simp)]
 case binOp o t x y t2 => simp only [effK, h x (by simp), h y (by simp)]
 case mapUpdate t m k v => simp only [effK, h m (by simp), h k (by simp), h v (by simp)]
 case call c =>
  simp only [Call.operands] at h
  have ha : ∀ x ∈ c.args.toList, ev x = ev' x := fun x hx => h x (by simp at hx ⊢; exact .inr hx)
  cases hl : c.args.toList with
  | nil => cases hc : c.callee with
   | builtin b => cases b <;> simp only [effK, hc, hl]
   | _ => simp only [effK, hc, hl]
  | cons x r =>
   rw [hl] at ha
   cases r with
   | nil =>
    have hx := ha x (by simp)
    cases hc : c.callee with
    | builtin b =>
     cases b <;> try (simp only [effK, hc, hl]; done)
     case clear => simp only [effK, hc, hl, hx]
    | _ => simp only [effK, hc, hl]
   | cons y r =>
    cases r with
    | nil =>
     have hx := ha x (by simp)
     have hy := ha y (by simp)
     cases hc : c.callee with
     | builtin b =>
      cases b <;> try (simp only [effK, hc, hl]; done)
      case append => simp only [effK, hc, hl, hx, hy]
      case copy => simp only [effK, hc, hl, hx, hy]
     | _ => simp only [effK, hc, hl]
    | cons _ _ => cases hc : c.callee with
     | builtin b => cases b <;> simp only [effK, hc, hl]
     | _ => simp only [effK, hc, hl]
theorem fnOf_congr {C : Ctx} {ev ev' : Operand → AV} {c : Call} (h : ∀ x ∈ c.operands, ev x = ev' x) : fnOf C ev c = fnOf C ev' c := by
 unfold fnOf
 simp only [Call.operands] at h
 have ha : c.args.toList.map ev = c.args.toList.map ev' := map_congr_ev fun x hx => h x (by simp at hx ⊢; exact .inr hx)
 cases hc : c.callee with
 | value fo => simp only [h fo (by simp [hc]), ha]
 | _ => rfl
theorem yieldK_congr {C : Ctx} {ev ev' : Operand → AV} {c : Call} {h0 : Heap} {K : AV → Heap → Prop} (h : ∀ x ∈ c.operands, ev x = ev' x) : yieldK C ev c h0 K = yieldK C ev' c h0 K := by
 unfold yieldK
 simp only [Call.operands] at h
 have ha : c.args.toList.map ev = c.args.toList.map ev' := map_congr_ev fun x hx => h x (by simp at hx ⊢; exact .inr hx)
 cases hc : c.callee with
 | value fo => simp only [h fo (by simp [hc]), ha]
 | _ => rfl
theorem appE_congr {ti : TI} {ev ev' : Operand → AV} {h0 : Heap} {c : Call} {K : AV → Heap → Prop} (h : ∀ x ∈ c.operands, ev x = ev' x) : appE ti ev h0 c K = appE ti ev' h0 c K := by
 simp only [Call.operands] at h
 have ha : ∀ x ∈ c.args.toList, ev x = ev' x := fun x hx => h x (by simp at hx ⊢; exact .inr hx)
 unfold appE
 split
 ·rename_i s x hl
  rw [hl] at ha
  simp only [ha s (by simp), ha x (by simp)]
 ·rfl
theorem app_ex {ti : TI} {ev : Operand → AV} {h : Heap} {c : Call} {K : AV → Heap → Prop} (hk : appE ti ev h c K) :
  ∃ (id0 : Id) (ep : Nat) (v : Nat → AV) (rows : List (List AV)), h[id0]? = some (.vec ep []) ∧ (∀ ep2, K (v ep2) (h.set id0 (.vec ep2 rows))) ∧
   ∀ (h' : Heap) (K' : AV → Heap → Prop), (∀ (i : Id) (e : Nat) (r : List (List AV)), h[i]? = some (AObj.vec e r) → h'[i]? = some (AObj.vec e r)) → (∀ ep2, K' (v ep2) (h'.set id0 (.vec ep2 rows))) → appE ti ev h' c K' := by
 have el : ∀ {size : Nat} {x : AV} {F : List (List AV) → Prop}, elemsOf h size x F → ∃ new, F new ∧ ∀ (h' : Heap) (F' : List (List AV) → Prop), (∀ (i : Id) (e : Nat) (r : List (List AV)), h[i]? = some (AObj.vec e r) → h'[i]? = some (AObj.vec e r)) → F' new → elemsOf h' size x F' := by
  intro size x F hx
  unfold elemsOf at hx
  split at hx
  ·split at hx
   ·rename_i e
    split at hx
    ·rename_i id ep sz off len lim ep' rows ho
     refine ⟨_, hx.2, fun h' F' hs hf => ?_⟩
     unfold elemsOf
     simp only [if_pos e, hs _ _ _ ho]
     exact ⟨hx.1, hf⟩
    ·exact hx.elim
   ·exact hx.elim
  ·split at hx
   ·rename_i e
    refine ⟨_, hx, fun h' F' hs hf => ?_⟩
    unfold elemsOf
    simp only [if_pos e]
    exact hf
   ·exact hx.elim
  ·refine ⟨_, hx, fun h' F' hs hf => ?_⟩
   unfold elemsOf
   exact hf
  ·exact hx.elim
 unfold appE at hk
 split at hk
 ·rename_i s x hl
  split at hk
  ·rename_i e e2 k1 k2
   split at hk
   ·rename_i d hd
    split at hk
    ·exact hk.elim
    ·rename_i hz
     obtain ⟨new, hn, hback⟩ := el hk
     split at hn
     ·rename_i id0 ep sz off len hs
      split at hn
      ·rename_i hsz
       obtain ⟨rfl, ho, hb, hk'⟩ := hn
       refine ⟨id0, ep, fun ep2 => .oslc id0 ep2 sz 0 new.length false, new, ho, hk', fun h' K' hsame hk2 => ?_⟩
       unfold appE
       simp only [hl, k1, k2, hd, if_neg hz]
       refine hback h' _ hsame ?_
       simp only [hs, if_pos hsz]
       exact ⟨by first | exact rfl | trivial, hsame _ _ _ ho, hb, hk2⟩
      ·exact hn.elim
     ·exact hn.elim
   ·exact hk.elim
  ·exact hk.elim
 ·exact hk.elim
theorem read_ext {ti : TI} {ev : Operand → AV} {h0 h1 : Heap} {op : Op} {K : AV → Prop} (hs : ∀ (i : Id) (o : AObj), h0[i]? = some o → h1[i]? = some o) (h : readK ti ev h0 op K) : readK ti ev h1 op K := by
 unfold readK at h ⊢
 split at h
 ·split at h
  ·exact h.elim
  ·split at h
   ·rename_i id ep2 sz i off e
    split at h
    ·rename_i ep' rows ho
     simp only [hs _ _ ho]
     exact h
    ·exact h.elim
   ·exact h
   ·exact h.elim
 ·exact lookK_ext (fun i x hx _ _ => hs i x hx) h
 ·exact h.elim
theorem read_app {ti : TI} {ev : Operand → AV} {h0 : Heap} {op : Op} {K : AV → Prop} {s : Id} {ep : Nat} {o : AObj} (hs : h0[s]? = some (.vec ep [])) (h : readK ti ev h0 op K) : readK ti ev (h0.set s o) op K := by
 unfold readK at h ⊢
 split at h
 ·split at h
  ·exact h.elim
  ·split at h
   ·rename_i id ep2 sz i off e
    split at h
    ·rename_i ep' rows ho
     have hne : s ≠ id := by
      rintro rfl
      rw [hs] at ho
      cases ho
      have h2 := h.2
      simp [rowK] at h2
     simp only [Heap.getElem?_set_ne hne, ho]
     exact h
    ·exact h.elim
   ·exact h
   ·exact h.elim
 ·exact lookK_ext (fun i x hx _ hv => by
   have hne : s ≠ i := by rintro rfl; rw [hs] at hx; cases hx; exact hv ep rfl
   rw [Heap.getElem?_set_ne hne]; exact hx) h
 ·exact h.elim
theorem opK_congr {C : Ctx} {ev ev' : Operand → AV} {id : Id} {h0 : Heap} {op : Op} {K : AV → Heap → Prop} (h : ∀ x ∈ op.operands, ev x = ev' x) : opK C ev id h0 op K = opK C ev' id h0 op K := by
 have hc : ∀ c, op = .call c → fnOf C ev c = fnOf C ev' c := fun c e => by
  subst e
  exact fnOf_congr h
 have hy : ∀ c, op = .call c → yieldK C ev c h0 K = yieldK C ev' c h0 K := fun c e => by
  subst e
  exact yieldK_congr h
 unfold opK
 cases clsOf C op with
 | pure => exact pureK_congr h
 | read => exact readK_congr h
 | alloc => exact allocK_congr h
 | eff => exact effK_congr h
 | app =>
  cases op <;> try rfl
  rename_i c
  exact appE_congr h
 | pcall =>
  cases op <;> try rfl
  rename_i c
  simp only [hc c rfl, hy c rfl]
 | hcall =>
  cases op <;> try rfl
  rename_i c
  simp only [hc c rfl, hy c rfl]
 | xcall =>
  cases op <;> try rfl
  rename_i c
  simp only [hc c rfl, hy c rfl]
 | call =>
  cases op <;> try rfl
  rename_i c
  simp only [hc c rfl, hy c rfl]
def stepO (C : Ctx) (ops : Array Oper) (slot : Nat → Id) (i : Nat) (fr : List AV) (h : Heap) (K : List AV → Heap → Prop) : Prop :=
 match ops[i]? with
 | none => False
 | some o => match wantA ops o fr with
  | some true => opK C (evl fr) (slot i) h o.op fun v h' => K (putF fr o.dst v) h'
  | some false => K (putF fr o.dst (.tup [])) h
  | none => False
theorem runOrd_cons {C : Ctx} {ops : Array Oper} {slot : Nat → Id} {i : Nat} {r : List Nat} {fr : List AV} {h : Heap} {K : List AV → Heap → Prop} :
  runOrd C ops slot (i :: r) fr h K = stepO C ops slot i fr h fun fr h => runOrd C ops slot r fr h K := rfl
theorem evl_put {fr : List AV} {dst : Option Tmp} {v : AV} {x : Operand} (h : ∀ d, dst = some d → x ≠ .tmp d) : evl (putF fr dst v) x = evl fr x := by
 cases dst with
 | none => rfl
 | some d =>
  cases x with
  | tmp t =>
   have hne : d ≠ t := fun e => h d rfl (e ▸ rfl)
   simp only [evl, putF, List.getD, List.getElem?_set_ne hne]
  | _ => rfl
theorem putF_comm {fr : List AV} {x y : Option Tmp} {uu v : AV} (h : ∀ d, x = some d → y ≠ some d) : putF (putF fr x uu) y v = putF (putF fr y v) x uu := by
 cases x with
 | none => rfl
 | some d =>
  cases y with
  | none => rfl
  | some e =>
   have hne : d ≠ e := fun he => h d rfl (he ▸ rfl)
   simp only [putF, List.set_comm _ _ hne]
theorem wantA_put {ops : Array Oper} {o : Oper} {fr : List AV} {dst : Option Tmp} {v : AV} (h : ∀ d, dst = some d → d ∉ o.looksAt ops) : wantA ops o (putF fr dst v) = wantA ops o fr := by
 cases dst with
 | none => rfl
 | some d =>
  unfold wantA
  cases hg : o.guard with
  | none => rfl
  | some gw =>
   obtain ⟨g, want⟩ := gw
   simp only
   cases ht : (ops[g]?).bind (·.dst) with
   | none => rfl
   | some t =>
    have hne : d ≠ t := fun e => h d rfl (by subst e; simp [Oper.looksAt, hg, ht])
    simp only [putF, List.getElem?_set_ne hne]
theorem opK_put {C : Ctx} {ops : Array Oper} {o : Oper} {fr : List AV} {dst : Option Tmp} {uu : AV} {id : Id} {h0 : Heap} {K : AV → Heap → Prop} (h : ∀ d, dst = some d → d ∉ o.looksAt ops) :
  opK C (evl (putF fr dst uu)) id h0 o.op K = opK C (evl fr) id h0 o.op K :=
 opK_congr fun x hx => evl_put fun d hd hxd => h d hd (by
  subst hxd
  exact List.mem_append_left _ (List.mem_filterMap.2 ⟨.tmp d, by simpa using hx, rfl⟩))
end Go.Ab

namespace Go.Ab
section
variable {C : Ctx} {ops : Array Oper} {slot : Nat → Id}
def Cls.still : Cls → Bool
 | .pure | .pcall => true
 | _ => false
theorem still_det {op : Op} (hc : (clsOf C op).still = true) {fr : List AV} {id : Id} {h : Heap} {K : AV → Heap → Prop} (hk : opK C (evl fr) id h op K) :
  ∃ v, K v h ∧ ∀ (id2 : Id) (h2 : Heap) (K' : AV → Heap → Prop), K' v h2 → opK C (evl fr) id2 h2 op K' := by
 unfold opK at hk
 cases hcl : clsOf C op with
 | pure =>
  simp only [hcl] at hk
  obtain ⟨v, h1, h2⟩ := pure_det C.ti (evl fr) op _ hk
  refine ⟨v, h1, fun id2 h3 K' hk' => ?_⟩
  unfold opK
  simp only [hcl]
  exact h2 (fun v => K' v h3) hk'
 | pcall =>
  simp only [hcl] at hk
  split at hk
  ·rename_i c
   have hpf : ∃ f, c.callee = .value (.func f) ∧ C.pureFn f = true := by
    simp only [clsOf] at hcl
    split at hcl
    ·split at hcl <;> cases hcl
    ·cases hcl
    ·cases hcl
    ·cases hcl
    ·rename_i f hf
     split at hcl
     ·rename_i hp; exact ⟨f, hf, hp⟩
     ·split at hcl
      ·cases hcl
      ·split at hcl <;> cases hcl
    ·cases hcl
   obtain ⟨f, hf, hp⟩ := hpf
   split at hk
   ·rename_i g args hfn
    have hg : g = f := by
     unfold fnOf at hfn
     simp only [hf] at hfn
     split at hfn
     ·rename_i q first cap e
      split at hfn
      ·simp only [Option.some.injEq, Prod.mk.injEq] at hfn
       obtain ⟨rfl, _⟩ := hfn
       simp only [evl] at e
       cases e
       rfl
      ·cases hfn
     ·cases hfn
    subst hg
    unfold callK at hk
    simp only [hp] at hk
    obtain ⟨r, h1, h2⟩ := hk
    refine ⟨r, h2, fun id2 h3 K' hk' => ?_⟩
    unfold opK
    simp only [hcl, hfn]
    unfold callK
    simp only [hp]
    exact ⟨r, h1, hk'⟩
   ·unfold yieldK at hk
    simp only [hf, evl] at hk
  ·exact hk.elim
 | read => rw [hcl] at hc; cases hc
 | alloc => rw [hcl] at hc; cases hc
 | eff => rw [hcl] at hc; cases hc
 | app => rw [hcl] at hc; cases hc
 | hcall => rw [hcl] at hc; cases hc
 | xcall => rw [hcl] at hc; cases hc
 | call => rw [hcl] at hc; cases hc
def slotF (l : List (Nat × Nat)) (i : Nat) : Id := match l.find? (·.1 == i) with | some p => .s p.2 | none => .s 1000000
def swapOk (cj ci : Cls) (sj si : Id) : Bool :=
 cj.still || match cj, ci with
  | .read, .xcall | .read, .hcall | .read, .pure | .read, .pcall | .read, .read | .read, .alloc | .read, .app | .app, .alloc => true
  | .alloc, .alloc => sj != si
  | _, _ => false
theorem Heap.ext_some {h : Heap} (l : List AObj) (i : Id) (o : AObj) (x : h[i]? = some o) : (⟨h.st, h.dy ++ l⟩ : Heap)[i]? = some o := by
 cases i with
 | s n => exact x
 | d n =>
  have x : h.dy[n]? = some o := x
  show (h.dy ++ l)[n]? = some o
  rw [List.getElem?_append_left (List.getElem?_eq_some_iff.1 x).1]
  exact x
theorem hcall_swap {op : Op} {fr : List AV} {id : Id} {h : Heap} {K K' : AV → Heap → Prop} (hc : clsOf C op = .hcall) (hk : opK C (evl fr) id h op K) (hm : ∀ v l, K v ⟨h.st, h.dy ++ l⟩ → K' v ⟨h.st, h.dy ++ l⟩) : opK C (evl fr) id h op K' := by
 unfold opK at hk ⊢
 simp only [hc] at hk ⊢
 split at hk
 ·rename_i c
  have hpf : ∃ f, c.callee = .value (.func f) ∧ C.pureFn f = false ∧ C.hFn f = true := by
   simp only [clsOf] at hc
   split at hc
   ·split at hc <;> cases hc
   ·cases hc
   ·cases hc
   ·cases hc
   ·rename_i f hf
    split at hc
    ·cases hc
    ·rename_i hp
     split at hc
     ·rename_i hh; exact ⟨f, hf, by simpa using hp, hh⟩
     ·split at hc <;> cases hc
   ·cases hc
  obtain ⟨f, hf, hp, hh⟩ := hpf
  split at hk
  ·rename_i g args hfn
   have hg : g = f := by
    unfold fnOf at hfn
    simp only [hf] at hfn
    split at hfn
    ·rename_i q first cap e
     split at hfn
     ·simp only [Option.some.injEq, Prod.mk.injEq] at hfn
      obtain ⟨rfl, _⟩ := hfn
      simp only [evl] at e
      cases e
      rfl
     ·cases hfn
    ·cases hfn
   subst hg
   unfold callK at hk ⊢
   simp only [hp, hh] at hk ⊢
   split at hk
   ·obtain ⟨R, H, h1, h2⟩ := hk
    exact ⟨R, H, h1, fun eps => hm _ _ (h2 eps)⟩
   ·exact hk.elim
  ·unfold yieldK at hk
   simp only [hf, evl] at hk
 ·exact hk.elim
theorem xcall_swap {op : Op} {fr : List AV} {id : Id} {h : Heap} {K K' : AV → Heap → Prop} (hc : clsOf C op = .xcall) (hk : opK C (evl fr) id h op K) (hm : ∀ v h', (∀ (i : Id) (o : AObj), h[i]? = some o → h'[i]? = some o) → K v h' → K' v h') : opK C (evl fr) id h op K' := by
 unfold opK at hk ⊢
 simp only [hc] at hk ⊢
 split at hk
 ·rename_i c
  have hpf : ∃ f, c.callee = .value (.func f) ∧ C.pureFn f = false ∧ C.hFn f = false ∧ C.xFn f = true := by
   simp only [clsOf] at hc
   split at hc
   ·split at hc <;> cases hc
   ·cases hc
   ·cases hc
   ·cases hc
   ·rename_i f hf
    split at hc
    ·cases hc
    ·rename_i hp
     split at hc
     ·cases hc
     ·rename_i hh
      split at hc
      ·rename_i hx; exact ⟨f, hf, by simpa using hp, by simpa using hh, hx⟩
      ·cases hc
   ·cases hc
  obtain ⟨f, hf, hp, hh, hx⟩ := hpf
  split at hk
  ·rename_i g args hfn
   have hg : g = f := by
    unfold fnOf at hfn
    simp only [hf] at hfn
    split at hfn
    ·rename_i q first cap e
     split at hfn
     ·simp only [Option.some.injEq, Prod.mk.injEq] at hfn
      obtain ⟨rfl, _⟩ := hfn
      simp only [evl] at e
      cases e
      rfl
     ·cases hfn
    ·cases hfn
   subst hg
   unfold callK at hk ⊢
   simp only [hp, hh, hx] at hk ⊢
   exact hk.mono fun r h' q => ⟨q.1, hm _ _ q.1 q.2⟩
  ·unfold yieldK at hk
   simp only [hf, evl] at hk
 ·exact hk.elim
theorem swapK {opj opi : Op} {fr : List AV} {sj si : Id} {h : Heap} {F : AV → AV → Heap → Prop} (hs : swapOk (clsOf C opj) (clsOf C opi) sj si = true)
  (hk : opK C (evl fr) sj h opj fun v h' => opK C (evl fr) si h' opi fun uu h'' => F v uu h'') : opK C (evl fr) si h opi fun uu h' => opK C (evl fr) sj h' opj fun v h'' => F v uu h'' := by
 cases hst : (clsOf C opj).still with
 | true =>
  obtain ⟨v, h1, h2⟩ := still_det hst hk
  exact opK_mono (fun uu h' x => h2 sj h' (fun v h'' => F v uu h'') x) h1
 | false =>
  unfold swapOk at hs
  simp only [hst, Bool.false_or] at hs
  have rd : clsOf C opj = .read → ∃ v, (opK C (evl fr) si h opi fun uu h'' => F v uu h'') ∧ readK C.ti (evl fr) h opj fun x => x = v := by
   intro hc
   unfold opK at hk
   simp only [hc] at hk
   obtain ⟨v, h1, h2⟩ := read_det C.ti (evl fr) h opj _ hk
   exact ⟨v, h1, h2 (fun x => x = v) rfl⟩
  have back : ∀ {v : AV} {h' : Heap} {G : AV → Heap → Prop}, clsOf C opj = .read → (readK C.ti (evl fr) h' opj fun x => x = v) → G v h' → opK C (evl fr) sj h' opj G := by
   intro v h' G hc hr hg
   unfold opK
   simp only [hc]
   exact readK_mono (fun x (e : x = v) => by subst e; exact hg) hr
  split at hs
  ·rename_i hcj hci
   obtain ⟨v, h1, h2⟩ := rd hcj
   exact xcall_swap hci h1 fun uu h' hx hF => back hcj (read_ext hx h2) hF
  ·rename_i hcj hci
   obtain ⟨v, h1, h2⟩ := rd hcj
   exact hcall_swap hci h1 fun uu l hF => back hcj (read_ext (Heap.ext_some l) h2) hF
  ·rename_i hcj hci
   obtain ⟨v, h1, h2⟩ := rd hcj
   obtain ⟨uu, h3, h4⟩ := still_det (by rw [hci]; rfl) h1
   exact h4 si h _ (back hcj h2 h3)
  ·rename_i hcj hci
   obtain ⟨v, h1, h2⟩ := rd hcj
   obtain ⟨uu, h3, h4⟩ := still_det (by rw [hci]; rfl) h1
   exact h4 si h _ (back hcj h2 h3)
  ·rename_i hcj hci
   obtain ⟨v, h1, h2⟩ := rd hcj
   unfold opK at h1
   simp only [hci] at h1
   obtain ⟨uu, h3, h4⟩ := read_det C.ti (evl fr) h opi _ h1
   have := h4 (fun uu => opK C (evl fr) sj h opj fun v h'' => F v uu h'') (back hcj h2 h3)
   unfold opK
   simp only [hci]
   exact this
  ·rename_i hcj hci
   obtain ⟨v, h1, h2⟩ := rd hcj
   unfold opK at h1
   simp only [hci] at h1
   obtain ⟨mv, mo, hiff⟩ := alloc_ex h1
   obtain ⟨hh, h3⟩ := (hiff _ _).1 h1
   have : allocK C.ti (evl fr) si h opi fun uu h' => opK C (evl fr) sj h' opj fun v h'' => F v uu h'' := (hiff _ _).2 ⟨hh, fun ep => back hcj (read_set hh h2) (h3 ep)⟩
   unfold opK
   simp only [hci]
   exact this
  ·rename_i hcj hci
   obtain ⟨v, h1, h2⟩ := rd hcj
   unfold opK at h1
   simp only [hci] at h1
   split at h1
   ·rename_i c
    obtain ⟨id0, ep, mv, rows, ho, h3, hback⟩ := app_ex h1
    unfold opK
    simp only [hci]
    refine hback h _ (fun _ _ _ x => x) fun ep2 => ?_
    exact back hcj (read_app ho h2) (h3 ep2)
   ·exact h1.elim
  ·rename_i hcj hci
   unfold opK at hk
   simp only [hcj] at hk
   split at hk
   ·rename_i c
    obtain ⟨id0, ep, mvj, rows, ho, h1, hback⟩ := app_ex hk
    have h1' : ∀ ep2, allocK C.ti (evl fr) si (h.set id0 (.vec ep2 rows)) opi fun uu h'' => F (mvj ep2) uu h'' := by
     intro ep2
     have := h1 ep2
     unfold opK at this
     simp only [hci] at this
     exact this
    obtain ⟨mvi, moi, hiffi⟩ := alloc_ex (h1' 0)
    have h2 := fun ep2 => (hiffi _ _).1 (h1' ep2)
    have hne : id0 ≠ si := by
     rintro rfl
     have := (h2 0).1
     rw [Heap.getElem?_set_self', ho] at this
     cases this
    have hhi : h[si]? = some .hole := by have := (h2 0).1; rwa [Heap.getElem?_set_ne hne] at this
    have : allocK C.ti (evl fr) si h opi fun uu h' => appE C.ti (evl fr) h' c fun v h'' => F v uu h'' := by
     refine (hiffi _ _).2 ⟨hhi, fun epi => hback _ _ (fun i e r x => ?_) fun ep2 => ?_⟩
     ·rw [Heap.getElem?_set_ne (by rintro rfl; rw [hhi] at x; cases x)]
      exact x
     ·rw [Heap.set_comm _ _ _ (Ne.symm hne)]
      exact (h2 ep2).2 epi
    unfold opK
    simp only [hcj, hci]
    exact this
   ·exact hk.elim
  ·rename_i hcj hci
   have hne : sj ≠ si := by simpa using hs
   have hk' : allocK C.ti (evl fr) sj h opj fun v h' => allocK C.ti (evl fr) si h' opi fun uu h'' => F v uu h'' := by
    unfold opK at hk
    simp only [hcj, hci] at hk
    exact hk
   obtain ⟨mvj, moj, hiffj⟩ := alloc_ex hk'
   obtain ⟨hhj, h1⟩ := (hiffj _ _).1 hk'
   obtain ⟨mvi, moi, hiffi⟩ := alloc_ex (h1 0)
   have h2 : ∀ epj, (h.set sj (moj epj))[si]? = some .hole ∧ ∀ epi, F (mvj epj) (mvi epi) ((h.set sj (moj epj)).set si (moi epi)) := fun epj => (hiffi _ _).1 (h1 epj)
   have hhi : h[si]? = some .hole := by have := (h2 0).1; rwa [Heap.getElem?_set_ne hne] at this
   have : allocK C.ti (evl fr) si h opi fun uu h' => allocK C.ti (evl fr) sj h' opj fun v h'' => F v uu h'' := by
    refine (hiffi _ _).2 ⟨hhi, fun epi => (hiffj _ _).2 ⟨by rw [Heap.getElem?_set_ne (Ne.symm hne)]; exact hhj, fun epj => ?_⟩⟩
    rw [Heap.set_comm _ _ _ (Ne.symm hne)]
    exact (h2 epj).2 epi
   unfold opK
   simp only [hcj, hci]
   exact this
  ·cases hs
theorem opK_false {opj : Op} {ci : Cls} {fr : List AV} {sj si : Id} {h : Heap} (hs : swapOk (clsOf C opj) ci sj si = true) (hk : opK C (evl fr) sj h opj fun _ _ => False) : False := by
 cases hst : (clsOf C opj).still with
 | true => obtain ⟨v, h1, _⟩ := still_det hst hk; exact h1
 | false =>
  unfold swapOk at hs
  simp only [hst, Bool.false_or] at hs
  unfold opK at hk
  cases hc : clsOf C opj with
  | read => simp only [hc] at hk; obtain ⟨v, h1, _⟩ := read_det C.ti (evl fr) h opj _ hk; exact h1
  | alloc => simp only [hc] at hk; obtain ⟨mv, mo, hiff⟩ := alloc_ex hk; exact ((hiff _ _).1 hk).2 0
  | app =>
   simp only [hc] at hk
   split at hk
   ·obtain ⟨_, _, _, _, _, h1, _⟩ := app_ex hk; exact h1 0
   ·exact hk.elim
  | _ => simp [hc] at hs
theorem swapO {j i : Nat} {oj oi : Oper} (hj : ops[j]? = some oj) (hi : ops[i]? = some oi) (hap : oj.apart ops oi = true) (hs : swapOk (clsOf C oj.op) (clsOf C oi.op) (slot j) (slot i) = true)
  {fr : List AV} {h : Heap} {K : List AV → Heap → Prop} (hk : stepO C ops slot j fr h fun fr h => stepO C ops slot i fr h K) : stepO C ops slot i fr h fun fr h => stepO C ops slot j fr h K := by
 obtain ⟨a1, a2, a3⟩ := Oper.apart_spec hap
 have e1 : ∀ (v : AV), wantA ops oi (putF fr oj.dst v) = wantA ops oi fr := fun v => wantA_put a1
 have e2 : ∀ (uu : AV), wantA ops oj (putF fr oi.dst uu) = wantA ops oj fr := fun uu => wantA_put a3
 have e3 : ∀ (v uu : AV), putF (putF fr oj.dst v) oi.dst uu = putF (putF fr oi.dst uu) oj.dst v := fun v uu => putF_comm a2
 unfold stepO at hk ⊢
 simp only [hj, hi, e1, e2] at hk ⊢
 cases wj : wantA ops oj fr with
 | none => simp [wj] at hk
 | some bj =>
  cases wi : wantA ops oi fr with
  | none =>
   cases bj with
   | false => simp [wj, wi] at hk
   | true =>
    simp only [wj, wi] at hk
    exact (opK_false hs hk).elim
  | some bi =>
   cases bj with
   | false =>
    cases bi with
    | false =>
     simp only [wj, wi, e3] at hk ⊢
     exact hk
    | true =>
     simp only [wj, wi, opK_put a1, e3] at hk ⊢
     exact hk
   | true =>
    cases bi with
    | false =>
     simp only [wj, wi, opK_put a3, e3] at hk ⊢
     exact hk
    | true =>
     simp only [wj, wi, opK_put a1, opK_put a3, e3] at hk ⊢
     exact swapK hs hk
def ordered (ops : Array Oper) (j i : Nat) : Bool := ((Region.before ops).getD i 0).testBit j
def pairOk (C : Ctx) (ops : Array Oper) (slot : Nat → Id) (j i : Nat) : Bool :=
 ordered ops j i || match ops[j]?, ops[i]? with
  | some oj, some oi => oj.apart ops oi && swapOk (clsOf C oj.op) (clsOf C oi.op) (slot j) (slot i)
  | _, _ => false
def pairsOk (C : Ctx) (ops : Array Oper) (slot : Nat → Id) : List Nat → Bool
 | [] => true
 | j :: r => r.all (pairOk C ops slot j) && pairsOk C ops slot r
def predsOk (ops : Array Oper) : List Nat → List Nat → Bool
 | _, [] => true
 | done, i :: r => (match ops[i]? with
  | some o => o.after.all fun e => !Region.binds .any e || done.contains e.on
  | none => false) && !done.contains i && predsOk ops (i :: done) r
def drawOk (C : Ctx) (ops : Array Oper) (slots : List (Nat × Nat)) (canon : List Nat) : Bool :=
 canon.length == ops.size && (List.range ops.size).all (fun k => canon.contains k) && canon.all (· < ops.size) && Region.noSelect ops && predsOk ops [] canon && pairsOk C ops (slotF slots) canon
end
end Go.Ab

namespace Go.Ab
theorem before_listed {ops : Array Oper} (L : Nat → Prop) (closed : ∀ (k : Nat) (o : Oper), ops[k]? = some o → L k → ∀ e ∈ o.after, Region.binds .any e = true → L e.on) :
  ∀ (i : Nat) (oi : Oper), ops[i]? = some oi → (∀ e ∈ oi.after, Region.binds .any e = true → L e.on) → ∀ j, ordered ops j i = true → L j := by
 let inner : Array Nat → Oper → Nat := fun acc o => o.after.foldl (fun s e => if Region.binds .any e then s ||| 2 ^ e.on ||| acc.getD e.on 0 else s) 0
 let P : Array Nat → Prop := fun acc => ∀ (k : Nat) (o : Oper), k < acc.size → ops[k]? = some o → (∀ e ∈ o.after, Region.binds .any e = true → L e.on) → ∀ j, (acc.getD k 0).testBit j = true → L j
 have hinner : ∀ (acc : Array Nat) (o : Oper), P acc → acc.size ≤ ops.size → (∀ e ∈ o.after, Region.binds .any e = true → L e.on) → ∀ j, (inner acc o).testBit j = true → L j := by
  intro acc o hP hsz hpre j hj
  have gen : ∀ (l : List Edge) (s : Nat), (∀ e ∈ l, Region.binds .any e = true → L e.on) → (s.testBit j = true → L j) → (l.foldl (fun s e => if Region.binds .any e then s ||| 2 ^ e.on ||| acc.getD e.on 0 else s) s).testBit j = true → L j := by
   intro l
   induction l with
   | nil => intro s _ hs h; exact hs h
   | cons e l ih =>
    intro s hl hs h
    simp only [List.foldl_cons] at h
    refine ih _ (fun e' he' => hl e' (by simp [he'])) (fun h2 => ?_) h
    split at h2
    ·rename_i hb
     have hLe := hl e (by simp) hb
     simp only [Nat.testBit_or, Bool.or_eq_true] at h2
     rcases h2 with (h2 | h2) | h2
     ·exact hs h2
     ·rw [Nat.testBit_two_pow] at h2
      have : e.on = j := by simpa using h2
      exact this ▸ hLe
     ·by_cases hlt : e.on < acc.size
      ·have hlt' : e.on < ops.size := by omega
       exact hP e.on ops[e.on] hlt (by simp) (closed e.on ops[e.on] (by simp) hLe) j h2
      ·rw [show acc.getD e.on 0 = 0 from by simp [Array.getD, hlt]] at h2
       simp at h2
    ·exact hs h2
  have := gen o.after.toList 0 (fun e he => hpre e (by simpa using he)) (fun h => by simp at h)
  simp only [inner] at hj
  rw [← Array.foldl_toList] at hj
  exact this hj
 have main : ∀ (l : List Oper) (acc : Array Nat), acc.size + l.length = ops.size → (∀ k, l[k]? = ops[acc.size + k]?) → P acc → P (l.foldl (fun acc o => acc.push (inner acc o)) acc) ∧ (l.foldl (fun acc o => acc.push (inner acc o)) acc).size = ops.size := by
  intro l
  induction l with
  | nil => intro acc h1 h2 h3; exact ⟨h3, by simpa using h1⟩
  | cons o l ih =>
   intro acc h1 h2 h3
   simp only [List.foldl_cons]
   simp only [List.length_cons] at h1
   refine ih _ (by simp; omega) (fun k => ?_) ?_
   ·have := h2 (k + 1)
    simp only [List.getElem?_cons_succ] at this
    rw [this]
    congr 1
    simp
    omega
   ·intro k ok hk hok hpre j hj
    simp only [Array.size_push] at hk
    by_cases hlt : k < acc.size
    ·rw [show (acc.push (inner acc o)).getD k 0 = acc.getD k 0 from by simp [Array.getD, hlt, show k < acc.size + 1 from by omega, Array.getElem_push_lt hlt]] at hj
     exact h3 k ok hlt hok hpre j hj
    ·have hke : k = acc.size := by omega
     subst hke
     have ho := h2 0
     simp only [List.getElem?_cons_zero, Nat.add_zero] at ho
     rw [hok] at ho
     cases ho
     rw [show (acc.push (inner acc o)).getD acc.size 0 = inner acc o from by simp [Array.getD]] at hj
     exact hinner acc o h3 (by omega) hpre j hj
 intro i oi hi hpre j hj
 have hb : Region.before ops = ops.toList.foldl (fun acc o => acc.push (inner acc o)) #[] := by
  unfold Region.before
  rw [← Array.foldl_toList]
 obtain ⟨m1, m2⟩ := main ops.toList #[] (by simp) (fun k => by simp) (fun k o hk => by simp at hk)
 unfold ordered at hj
 rw [hb] at hj
 refine m1 i oi ?_ hi hpre j hj
 rw [m2]
 exact (Array.getElem?_eq_some_iff.1 hi).1
section
variable {C : Ctx} {ops : Array Oper} {slot : Nat → Id}
theorem stepO_mono {i : Nat} {fr : List AV} {h : Heap} {K K' : List AV → Heap → Prop} (hk : ∀ f h, K f h → K' f h) (x : stepO C ops slot i fr h K) : stepO C ops slot i fr h K' := by
 unfold stepO at x ⊢
 split at x
 ·exact x.elim
 ·split at x
  ·exact opK_mono (fun v h' y => hk _ _ y) x
  ·exact hk _ _ x
  ·exact x.elim
theorem toFront {i : Nat} {post : List Nat} : ∀ {pre : List Nat} {fr : List AV} {h : Heap} {K : List AV → Heap → Prop},
  (∀ j ∈ pre, ∃ oj oi, ops[j]? = some oj ∧ ops[i]? = some oi ∧ oj.apart ops oi = true ∧ swapOk (clsOf C oj.op) (clsOf C oi.op) (slot j) (slot i) = true) →
  runOrd C ops slot (pre ++ i :: post) fr h K → runOrd C ops slot (i :: (pre ++ post)) fr h K := by
 intro pre
 induction pre with
 | nil => intro fr h K _ x; exact x
 | cons p pre ih =>
  intro fr h K hp x
  obtain ⟨oj, oi, h1, h2, h3, h4⟩ := hp p (by simp)
  have x1 : stepO C ops slot p fr h fun fr h => stepO C ops slot i fr h fun fr h => runOrd C ops slot (pre ++ post) fr h K := by
   rw [List.cons_append, runOrd_cons] at x
   exact stepO_mono (fun f h' y => ih (fun j hj => hp j (by simp [hj])) y) x
  exact swapO h1 h2 h3 h4 x1
structure Left (C : Ctx) (ops : Array Oper) (slot : Nat → Id) (listed : Array Bool) (rem : List Nat) : Prop where
 size : listed.size = ops.size
 mem : ∀ k, k ∈ rem ↔ k < ops.size ∧ listed.getD k false = false
 nodup : rem.Nodup
 pairs : rem.Pairwise fun j i => pairOk C ops slot j i = true
 preds : ∀ pre i post, rem = pre ++ i :: post → ∀ o, ops[i]? = some o → ∀ e ∈ o.after, Region.binds .any e = true → listed.getD e.on false = true ∨ e.on ∈ pre
 closed : ∀ (k : Nat) (o : Oper), ops[k]? = some o → listed.getD k false = true → ∀ e ∈ o.after, Region.binds .any e = true → listed.getD e.on false = true
theorem getD_tf {l : Array Bool} {k : Nat} (h : k < l.size) (d d' : Bool) : l.getD k d = l.getD k d' := by simp [Array.getD, h]
theorem draw_any (ok : COk C) {rd : Option Nat} {Q : Exit → Act → World → Prop} : ∀ (fuel : Nat) {listed : Array Bool} {rem : List Nat} {σ : Sg} {fr : List AV} {a : Act} {h : Heap} {w : World} {K : List AV → Heap → Prop},
  rem.length = fuel → Left C ops slot listed rem → YOk C σ → VRels σ fr a.tmps.toList → Sim σ h w → runOrd C ops slot rem fr h K →
  (∀ fr' h' σ' a' w', K fr' h' → Mv σ h w σ' h' w' → VRels σ' fr' a'.tmps.toList → a'.defers = a.defers → Q .normal a' w') → wpAnyIn (FR rd) 0 C.P .any ops Q fuel listed a w := by
 intro fuel
 induction fuel with
 | zero =>
  intro listed rem σ fr a h w K hl left hy hf s hk hQ
  obtain rfl := List.eq_nil_of_length_eq_zero hl
  refine ⟨?_, hQ fr h σ a w hk (.refl s) hf rfl⟩
  refine List.eq_nil_iff_forall_not_mem.2 fun i hi => ?_
  obtain ⟨h1, o, ho, _⟩ := mem_ready.1 hi
  have hlt := (Array.getElem?_eq_some_iff.1 ho).1
  have := (left.mem i).2 ⟨hlt, by rw [getD_tf (by rw [left.size]; exact hlt) false true]; exact h1⟩
  simp at this
 | succ fuel ih =>
  intro listed rem σ fr a h w K hl left hy hf s hk hQ
  refine ⟨fun hnil => ?_, fun i hi => ?_⟩
  ·match rem, hl with
   | x :: rem, hl =>
    exfalso
    obtain ⟨hx, hxl⟩ := (left.mem x).1 (by simp)
    have : x ∈ Region.ready .any ops listed := mem_ready.2 ⟨by rw [getD_tf (by rw [left.size]; exact hx) true false]; exact hxl, ops[x], by simp, fun e he hb =>
     (left.preds [] x rem rfl ops[x] (by simp) e he hb).resolve_right (by simp)⟩
    rw [hnil] at this
    simp at this
  ·obtain ⟨h1, oi, hoi, hpre⟩ := mem_ready.1 hi
   have hlt := (Array.getElem?_eq_some_iff.1 hoi).1
   have hil : listed.getD i false = false := by rw [getD_tf (by rw [left.size]; exact hlt) false true]; exact h1
   obtain ⟨pre, post, rfl⟩ := List.append_of_mem ((left.mem i).2 ⟨hlt, hil⟩)
   have hfront : runOrd C ops slot (i :: (pre ++ post)) fr h K := by
    refine toFront (fun j hj => ?_) hk
    have hp : pairOk C ops slot j i = true := (List.pairwise_append.1 left.pairs).2.2 j hj i (by simp)
    have hjl := ((left.mem j).1 (by simp [hj])).2
    unfold pairOk at hp
    simp only [Bool.or_eq_true] at hp
    rcases hp with hp | hp
    ·have := before_listed (fun k => listed.getD k false = true) left.closed i oi hoi hpre j hp
     rw [hjl] at this
     cases this
    ·split at hp
     ·rename_i oj oi' e1 e2
      simp only [Bool.and_eq_true] at hp
      exact ⟨oj, oi', e1, e2, hp.1, hp.2⟩
     ·cases hp
   have left' : Left C ops slot (listed.setIfInBounds i true) (pre ++ post) := by
    have hnd := List.nodup_append.1 left.nodup
    have hni : i ∉ pre := fun hx => hnd.2.2 i hx i (by simp) rfl
    have hnp : i ∉ post := (List.nodup_cons.1 hnd.2.1).1
    have hset : ∀ k, (listed.setIfInBounds i true).getD k false = if k = i then true else listed.getD k false := by
     intro k
     by_cases hk' : k = i
     ·subst hk'; simp [Array.getD, left.size, hlt]
     ·rw [if_neg hk']
      exact getD_set_ne false (Ne.symm hk')
    refine ⟨by simp [left.size], fun k => ?_, ?_, ?_, ?_, ?_⟩
    ·rw [hset]
     have hm := left.mem k
     simp only [List.mem_append, List.mem_cons] at hm ⊢
     by_cases hk' : k = i
     ·subst hk'
      simp [hni, hnp]
     ·simp only [hk', false_or, if_false] at hm ⊢
      exact hm
    ·exact left.nodup.sublist (List.Sublist.append (List.Sublist.refl _) (List.sublist_cons_self _ _))
    ·exact left.pairs.sublist (List.Sublist.append (List.Sublist.refl _) (List.sublist_cons_self _ _))
    ·intro pre2 k post2 he o ho e hea hb
     rw [hset]
     by_cases hei : e.on = i
     ·left; simp [hei]
     ·rw [if_neg hei]
      rcases List.append_eq_append_iff.1 he with ⟨as, h3, h4⟩ | ⟨bs, h3, h4⟩
      ·
       have := left.preds (pre ++ i :: as) k post2 (by rw [h4]; simp) o ho e hea hb
       rcases this with x | x
       ·exact .inl x
       ·right
        rw [h3]
        simp only [List.mem_append, List.mem_cons, hei, false_or] at x ⊢
        exact x
      ·
       match bs, h4 with
       | [], h4 =>
        simp only [List.nil_append] at h4
        simp only [List.append_nil] at h3
        have := left.preds (pre ++ [i]) k post2 (by rw [← h4]; simp) o ho e hea hb
        rcases this with x | x
        ·exact .inl x
        ·right
         simp only [List.mem_append, List.mem_singleton, hei, or_false] at x
         rw [← h3]; exact x
       | b :: bs, h4 =>
        simp only [List.cons_append, List.cons.injEq] at h4
        obtain ⟨rfl, h5⟩ := h4
        have := left.preds pre2 k (bs ++ i :: post) (by rw [h3]; simp) o ho e hea hb
        exact this
    ·intro k o ho hkl e hea hb
     rw [hset] at hkl ⊢
     split
     ·rfl
     ·split at hkl
      ·rename_i hk'
       subst hk'
       rw [hoi] at ho
       cases ho
       exact hpre e hea hb
      ·exact left.closed k o ho hkl e hea hb
   rw [runOrd_cons] at hfront
   unfold wpOpIn
   simp only [hoi]
   unfold stepO at hfront
   simp only [hoi] at hfront
   have hlen : (pre ++ post).length = fuel := by simp at hl ⊢; omega
   split at hfront
   ·rename_i hw
    rw [wantA_sound hf hw]
    refine op_sound ok hy hf s (slot i) oi hfront fun v x σ' h' w' k m hv => ?_
    refine ih hlen left' (hy.mono m.le) (putF_rel (hf.mono m.le) hv) m.sim k fun fr' h'' σ'' a' w'' k2 m2 hv2 hd => ?_
    exact hQ fr' h'' σ'' a' w'' k2 (m.trans m2) hv2 (hd.trans (by cases oi.dst <;> rfl))
   ·rename_i hw
    rw [wantA_sound hf hw]
    simp only [Bool.false_eq_true, if_false]
    refine ⟨fun _ _ => trivial, ?_⟩
    refine ih hlen left' hy (putF_rel hf undef_rel) s hfront fun fr' h'' σ'' a' w'' k2 m2 hv2 hd => ?_
    exact hQ fr' h'' σ'' a' w'' k2 m2 hv2 (hd.trans (by cases oi.dst <;> rfl))
   ·exact hfront.elim
theorem pairsOk_spec : ∀ {l : List Nat}, pairsOk C ops slot l = true → l.Pairwise fun j i => pairOk C ops slot j i = true := by
 intro l
 induction l with
 | nil => intro _; exact .nil
 | cons j r ih =>
  intro h
  simp only [pairsOk, Bool.and_eq_true, List.all_eq_true] at h
  exact List.pairwise_cons.2 ⟨h.1, ih h.2⟩
theorem predsOk_spec : ∀ {l done : List Nat}, predsOk ops done l = true → l.Nodup ∧ (∀ i ∈ l, i ∉ done) ∧ ∀ pre i post, l = pre ++ i :: post → ∀ o, ops[i]? = some o → ∀ e ∈ o.after, Region.binds .any e = true → e.on ∈ done ∨ e.on ∈ pre := by
 intro l
 induction l with
 | nil => intro done _; exact ⟨.nil, by simp, fun pre i post h => by simp at h⟩
 | cons i r ih =>
  intro done h
  simp only [predsOk, Bool.and_eq_true, Bool.not_eq_true'] at h
  obtain ⟨⟨h1, h2⟩, h3⟩ := h
  obtain ⟨a, b, c⟩ := ih h3
  have hid : i ∉ done := by simpa using h2
  refine ⟨List.nodup_cons.2 ⟨fun hi => b i hi (by simp), a⟩, fun k hk => ?_, fun pre k post he o ho e hea hb => ?_⟩
  ·rcases List.mem_cons.1 hk with rfl | hk
   ·exact hid
   ·exact fun hx => b k hk (by simp [hx])
  ·match pre, he with
   | [], he =>
    simp only [List.nil_append, List.cons.injEq] at he
    obtain ⟨rfl, rfl⟩ := he
    simp only [ho] at h1
    rw [Array.all_eq_true_iff_forall_mem] at h1
    have := h1 e hea
    simp only [hb, Bool.not_true, Bool.false_or] at this
    exact .inl (by simpa using this)
   | p :: pre, he =>
    simp only [List.cons_append, List.cons.injEq] at he
    obtain ⟨rfl, rfl⟩ := he
    rcases c pre k post rfl o ho e hea hb with x | x
    ·rcases List.mem_cons.1 x with x | x
     ·exact .inr (by simp [x])
     ·exact .inl x
    ·exact .inr (by simp [x])
theorem draw_sound (ok : COk C) {rd : Option Nat} (hm : C.P.follows .mixedOrders = true) {slots : List (Nat × Nat)} {canon : List Nat} (hd : drawOk C ops slots canon = true) {Q : Exit → Act → World → Prop} {id : Nat} {σ : Sg} {fr : List AV} {a : Act} {h : Heap} {w : World} {K : List AV → Heap → Prop}
  (hy : YOk C σ) (hf : VRels σ fr a.tmps.toList) (s : Sim σ h w) (hk : runOrd C ops (slotF slots) canon fr h K)
  (hQ : ∀ fr' h' σ' a' w', K fr' h' → Mv σ h w σ' h' w' → VRels σ' fr' a'.tmps.toList → a'.defers = a.defers → Q .normal a' w') : (Code.region id ops true).wpIn (FR rd) 0 C.P Q a w := by
 unfold drawOk at hd
 simp only [Bool.and_eq_true, beq_iff_eq, List.all_eq_true, decide_eq_true_eq] at hd
 obtain ⟨⟨⟨⟨⟨d1, d0⟩, d2⟩, d3⟩, d4⟩, d5⟩ := hd
 obtain ⟨p1, p2, p3⟩ := predsOk_spec d4
 have m0 : Mv σ h w σ h { w with drawn := w.drawn + 1 } := s.same rfl ⟨rfl, rfl, rfl⟩
 refine wpIn_region_any hm ?_
 have hrep : ∀ k, (Array.replicate ops.size false).getD k false = false := fun k => by
  simp only [Array.getD]
  split <;> simp
 refine draw_any ok ops.size d1 ⟨by simp, fun k => ?_, p1, pairsOk_spec d5, fun pre i post he o ho e hea hb => ?_, fun k o ho hkl => ?_⟩ hy hf m0.sim hk fun fr' h' σ' a' w' k m v d => hQ fr' h' σ' a' w' k (m0.trans m) v d
 ·rw [hrep]
  refine ⟨fun hk => ⟨d2 k hk, rfl⟩, fun ⟨hk, _⟩ => ?_⟩
  have := d0 k (List.mem_range.2 hk)
  simpa using this
 ·exact .inr ((p3 pre i post he o ho e hea hb).resolve_left (by simp))
 ·rw [hrep] at hkl; cases hkl
end
end Go.Ab

namespace Go.Ab
inductive Plan where
 | done
 | one (i : Nat) (p : Plan)
 | br (i j : Nat) (p q : Plan)
 | br3 (i j l : Nat) (p q r : Plan)
 deriving Inhabited
section
variable {C : Ctx} {ops : Array Oper} {slot : Nat → Id}
def freeOp (ops : Array Oper) (i : Nat) (rem : List Nat) : Bool := match ops[i]? with
 | some o => o.after.all fun e => !Region.binds .any e || (decide (e.on < ops.size) && !rem.contains e.on)
 | none => false
def Plan.ok (C : Ctx) (ops : Array Oper) (slot : Nat → Id) : Plan → List Nat → Bool
 | .done, rem => rem.isEmpty
 | .one i p, rem => rem.contains i && freeOp ops i rem && (rem.all fun j => j == i || pairOk C ops slot i j) && p.ok C ops slot (rem.erase i)
 | .br i j p q, rem => rem.contains i && freeOp ops i rem && rem.contains j && (rem.all fun k => k == i || k == j || ordered ops i k || ordered ops j k) && p.ok C ops slot (rem.erase i) && q.ok C ops slot (rem.erase j)
 | .br3 i j l p q r, rem => rem.contains i && freeOp ops i rem && rem.contains j && rem.contains l && (rem.all fun k => k == i || k == j || k == l || ordered ops i k || ordered ops j k || ordered ops l k) && p.ok C ops slot (rem.erase i) && q.ok C ops slot (rem.erase j) && r.ok C ops slot (rem.erase l)
def Plan.run (C : Ctx) (ops : Array Oper) (slot : Nat → Id) : Plan → List AV → Heap → (List AV → Heap → Prop) → Prop
 | .done, fr, h, K => K fr h
 | .one i p, fr, h, K => stepO C ops slot i fr h fun fr h => p.run C ops slot fr h K
 | .br i j p q, fr, h, K => (stepO C ops slot i fr h fun fr h => p.run C ops slot fr h K) ∧ (stepO C ops slot j fr h fun fr h => q.run C ops slot fr h K)
 | .br3 i j l p q r, fr, h, K => (stepO C ops slot i fr h fun fr h => p.run C ops slot fr h K) ∧ (stepO C ops slot j fr h fun fr h => q.run C ops slot fr h K) ∧ (stepO C ops slot l fr h fun fr h => r.run C ops slot fr h K)
def Plan.adv (k : Nat) : Plan → Plan
 | .done => .done
 | .one i p => if i = k then p else .one i (p.adv k)
 | .br i j p q => if k = i then p else q
 | .br3 i j l p q r => if k = i then p else if k = j then q else r
theorem freeOp_sub {i : Nat} {rem rem2 : List Nat} (h : freeOp ops i rem = true) (hs : ∀ k ∈ rem2, k ∈ rem) : freeOp ops i rem2 = true := by
 unfold freeOp at h ⊢
 split at h
 ·rw [Array.all_eq_true_iff_forall_mem] at h ⊢
  intro e he
  have := h e he
  simp only [Bool.or_eq_true, Bool.and_eq_true, Bool.not_eq_true'] at this ⊢
  rcases this with x | ⟨z, x⟩
  ·exact .inl x
  ·refine .inr ⟨z, ?_⟩
   rw [← Bool.not_eq_true] at x ⊢
   intro y
   exact x (List.contains_iff_mem.2 (hs _ (List.contains_iff_mem.1 y)))
 ·cases h
theorem adv_spec {k : Nat} : ∀ {p : Plan} {rem : List Nat}, p.ok C ops slot rem = true → rem.Nodup → k ∈ rem → (∀ j ∈ rem, ordered ops j k = false) →
  (p.adv k).ok C ops slot (rem.erase k) = true ∧ ∀ {fr : List AV} {h : Heap} {K : List AV → Heap → Prop}, p.run C ops slot fr h K → stepO C ops slot k fr h fun fr h => (p.adv k).run C ops slot fr h K := by
 intro p
 induction p with
 | done =>
  intro rem h hn hk _
  simp only [Plan.ok, List.isEmpty_iff] at h
  subst h
  cases hk
 | one i p ih =>
  intro rem h hn hk ho
  simp only [Plan.ok, Bool.and_eq_true, List.contains_iff_mem, List.all_eq_true, Bool.or_eq_true, beq_iff_eq] at h
  obtain ⟨⟨⟨h1, h2⟩, h3⟩, h4⟩ := h
  by_cases hik : i = k
  ·subst hik
   simp only [Plan.adv, if_pos]
   exact ⟨h4, fun x => x⟩
  ·simp only [Plan.adv, if_neg hik]
   have hke : k ∈ rem.erase i := (hn.mem_erase_iff).2 ⟨Ne.symm hik, hk⟩
   obtain ⟨a, b⟩ := ih h4 (hn.erase i) hke fun j hj => ho j (List.mem_of_mem_erase hj)
   refine ⟨?_, fun {fr h K} x => ?_⟩
   ·simp only [Plan.ok, Bool.and_eq_true, List.contains_iff_mem, List.all_eq_true, Bool.or_eq_true, beq_iff_eq]
    refine ⟨⟨⟨(hn.mem_erase_iff).2 ⟨hik, h1⟩, freeOp_sub h2 fun x hx => List.mem_of_mem_erase hx⟩, fun j hj => h3 j (List.mem_of_mem_erase hj)⟩, ?_⟩
    rw [List.erase_comm]
    exact a
   ·have hp := (h3 k hk).resolve_left (Ne.symm hik)
    unfold pairOk at hp
    rw [ho i h1, Bool.false_or] at hp
    split at hp
    ·rename_i oj oi e1 e2
     simp only [Bool.and_eq_true] at hp
     exact swapO e1 e2 hp.1 hp.2 (stepO_mono (fun f h' y => b y) x)
    ·cases hp
 | br i j p q ihp ihq =>
  intro rem h hn hk ho
  simp only [Plan.ok, Bool.and_eq_true, List.contains_iff_mem, List.all_eq_true, Bool.or_eq_true, beq_iff_eq] at h
  obtain ⟨⟨⟨⟨⟨h1, h2⟩, h3⟩, h4⟩, h5⟩, h6⟩ := h
  by_cases hki : k = i
  ·subst hki
   simp only [Plan.adv, if_pos]
   exact ⟨h5, fun x => x.1⟩
  ·simp only [Plan.adv, if_neg hki]
   have hkj : k = j := by
    rcases h4 k hk with ((x | x) | x) | x
    ·exact (hki x).elim
    ·exact x
    ·rw [ho i h1] at x; cases x
    ·rw [ho j h3] at x; cases x
   subst hkj
   exact ⟨h6, fun x => x.2⟩
 | br3 i j l p q r ihp ihq ihr =>
  intro rem h hn hk ho
  simp only [Plan.ok, Bool.and_eq_true, List.contains_iff_mem, List.all_eq_true, Bool.or_eq_true, beq_iff_eq] at h
  obtain ⟨⟨⟨⟨⟨⟨⟨h1, h2⟩, h3⟩, h3'⟩, h4⟩, h5⟩, h6⟩, h7⟩ := h
  by_cases hki : k = i
  ·subst hki
   simp only [Plan.adv, if_pos]
   exact ⟨h5, fun x => x.1⟩
  ·by_cases hkj : k = j
   ·subst hkj
    simp only [Plan.adv, if_neg hki, if_pos]
    exact ⟨h6, fun x => x.2.1⟩
   ·simp only [Plan.adv, if_neg hki, if_neg hkj]
    have hkl : k = l := by
     rcases h4 k hk with ((((x | x) | x) | x) | x) | x
     ·exact (hki x).elim
     ·exact (hkj x).elim
     ·exact x
     ·rw [ho i h1] at x; cases x
     ·rw [ho j h3] at x; cases x
     ·rw [ho l h3'] at x; cases x
    subst hkl
    exact ⟨h7, fun x => x.2.2⟩
structure LeftP (ops : Array Oper) (listed : Array Bool) (rem : List Nat) : Prop where
 size : listed.size = ops.size
 mem : ∀ k, k ∈ rem ↔ k < ops.size ∧ listed.getD k false = false
 nodup : rem.Nodup
 closed : ∀ (k : Nat) (o : Oper), ops[k]? = some o → listed.getD k false = true → ∀ e ∈ o.after, Region.binds .any e = true → listed.getD e.on false = true
theorem LeftP.step {listed : Array Bool} {rem : List Nat} {i : Nat} (left : LeftP ops listed rem) (hlt : i < ops.size) {oi : Oper} (hoi : ops[i]? = some oi)
  (hpre : ∀ e ∈ oi.after, Region.binds .any e = true → listed.getD e.on false = true) : LeftP ops (listed.setIfInBounds i true) (rem.erase i) := by
 have hset : ∀ k, (listed.setIfInBounds i true).getD k false = if k = i then true else listed.getD k false := by
  intro k
  by_cases hk' : k = i
  ·subst hk'; simp [Array.getD, left.size, hlt]
  ·rw [if_neg hk']
   exact getD_set_ne false (Ne.symm hk')
 refine ⟨by simp [left.size], fun k => ?_, left.nodup.erase i, ?_⟩
 ·rw [hset, left.nodup.mem_erase_iff, left.mem]
  by_cases hk' : k = i
  ·simp [hk']
  ·simp [hk']
 ·intro k o ho hkl e hea hb
  rw [hset] at hkl ⊢
  split
  ·rfl
  ·split at hkl
   ·rename_i hk'
    subst hk'
    rw [hoi] at ho
    cases ho
    exact hpre e hea hb
   ·exact left.closed k o ho hkl e hea hb
theorem plan_free {p : Plan} {rem : List Nat} (h : p.ok C ops slot rem = true) (hr : rem ≠ []) : ∃ i ∈ rem, freeOp ops i rem = true := by
 cases p with
 | done => simp only [Plan.ok, List.isEmpty_iff] at h; exact (hr h).elim
 | one i p => simp only [Plan.ok, Bool.and_eq_true, List.contains_iff_mem] at h; exact ⟨i, h.1.1.1, h.1.1.2⟩
 | br i j p q => simp only [Plan.ok, Bool.and_eq_true, List.contains_iff_mem] at h; exact ⟨i, h.1.1.1.1.1, h.1.1.1.1.2⟩
 | br3 i j l p q r => simp only [Plan.ok, Bool.and_eq_true, List.contains_iff_mem] at h; exact ⟨i, h.1.1.1.1.1.1.1, h.1.1.1.1.1.1.2⟩
theorem draw_plan (ok : COk C) {rd : Option Nat} {Q : Exit → Act → World → Prop} : ∀ (fuel : Nat) {p : Plan} {listed : Array Bool} {rem : List Nat} {σ : Sg} {fr : List AV} {a : Act} {h : Heap} {w : World} {K : List AV → Heap → Prop},
  rem.length = fuel → p.ok C ops slot rem = true → LeftP ops listed rem → YOk C σ → VRels σ fr a.tmps.toList → Sim σ h w → p.run C ops slot fr h K →
  (∀ fr' h' σ' a' w', K fr' h' → Mv σ h w σ' h' w' → VRels σ' fr' a'.tmps.toList → a'.defers = a.defers → Q .normal a' w') → wpAnyIn (FR rd) 0 C.P .any ops Q fuel listed a w := by
 intro fuel
 induction fuel with
 | zero =>
  intro p listed rem σ fr a h w K hl hp left hy hf s hk hQ
  obtain rfl := List.eq_nil_of_length_eq_zero hl
  have hd : p = .done := by
   cases p with
   | done => rfl
   | one i p => simp [Plan.ok] at hp
   | br i j p q => simp [Plan.ok] at hp
   | br3 i j l p q r => simp [Plan.ok] at hp
  subst hd
  refine ⟨?_, hQ fr h σ a w hk (.refl s) hf rfl⟩
  refine List.eq_nil_iff_forall_not_mem.2 fun i hi => ?_
  obtain ⟨h1, o, ho, _⟩ := mem_ready.1 hi
  have hlt := (Array.getElem?_eq_some_iff.1 ho).1
  have := (left.mem i).2 ⟨hlt, by rw [getD_tf (by rw [left.size]; exact hlt) false true]; exact h1⟩
  simp at this
 | succ fuel ih =>
  intro p listed rem σ fr a h w K hl hp left hy hf s hk hQ
  refine ⟨fun hnil => ?_, fun i hi => ?_⟩
  ·exfalso
   obtain ⟨x, hxr, hxf⟩ := plan_free hp (by intro e; rw [e] at hl; simp at hl)
   obtain ⟨hx, hxl⟩ := (left.mem x).1 hxr
   have : x ∈ Region.ready .any ops listed := by
    refine mem_ready.2 ⟨by rw [getD_tf (by rw [left.size]; exact hx) true false]; exact hxl, ops[x], by simp, fun e he hb => ?_⟩
    unfold freeOp at hxf
    simp only [Array.getElem?_eq_getElem hx, Array.all_eq_true_iff_forall_mem] at hxf
    have hq := hxf e he
    rw [hb] at hq
    simp only [Bool.not_true, Bool.false_or, Bool.and_eq_true, decide_eq_true_eq, Bool.not_eq_true'] at hq
    obtain ⟨hon, hq⟩ := hq
    rw [← Bool.not_eq_true, List.contains_iff_mem, left.mem] at hq
    cases hz : listed.getD e.on false with
    | true => rfl
    | false => exact (hq ⟨hon, hz⟩).elim
   rw [hnil] at this
   simp at this
  ·obtain ⟨h1, oi, hoi, hpre⟩ := mem_ready.1 hi
   have hlt := (Array.getElem?_eq_some_iff.1 hoi).1
   have hil : listed.getD i false = false := by rw [getD_tf (by rw [left.size]; exact hlt) false true]; exact h1
   have hir := (left.mem i).2 ⟨hlt, hil⟩
   have hord : ∀ j ∈ rem, ordered ops j i = false := by
    intro j hj
    cases ho : ordered ops j i with
    | false => rfl
    | true =>
     have hjl := ((left.mem j).1 hj).2
     have := before_listed (fun k => listed.getD k false = true) left.closed i oi hoi hpre j ho
     rw [hjl] at this
     cases this
   obtain ⟨p2, hrun⟩ := adv_spec hp left.nodup hir hord
   have hk2 := hrun hk
   have left2 := left.step hlt hoi hpre
   have hlen : (rem.erase i).length = fuel := by rw [List.length_erase_of_mem hir]; omega
   unfold wpOpIn
   simp only [hoi]
   unfold stepO at hk2
   simp only [hoi] at hk2
   split at hk2
   ·rename_i hw
    rw [wantA_sound hf hw]
    refine op_sound ok hy hf s (slot i) oi hk2 fun v x σ' h' w' k m hv => ?_
    refine ih hlen p2 left2 (hy.mono m.le) (putF_rel (hf.mono m.le) hv) m.sim k fun fr' h'' σ'' a' w'' k2 m2 hv2 hd => ?_
    exact hQ fr' h'' σ'' a' w'' k2 (m.trans m2) hv2 (hd.trans (by cases oi.dst <;> rfl))
   ·rename_i hw
    rw [wantA_sound hf hw]
    simp only [Bool.false_eq_true, if_false]
    refine ⟨fun _ _ => trivial, ?_⟩
    refine ih hlen p2 left2 hy (putF_rel hf undef_rel) s hk2 fun fr' h'' σ'' a' w'' k2 m2 hv2 hd => ?_
    exact hQ fr' h'' σ'' a' w'' k2 m2 hv2 (hd.trans (by cases oi.dst <;> rfl))
   ·exact hk2.elim
def planOk (C : Ctx) (ops : Array Oper) (slots : List (Nat × Nat)) (p : Plan) : Bool := p.ok C ops (slotF slots) (List.range ops.size)
theorem draw_sound2 (ok : COk C) {rd : Option Nat} (hm : C.P.follows .mixedOrders = true) {slots : List (Nat × Nat)} {p : Plan} (hd : planOk C ops slots p = true) {Q : Exit → Act → World → Prop} {id : Nat} {σ : Sg} {fr : List AV} {a : Act} {h : Heap} {w : World} {K : List AV → Heap → Prop}
  (hy : YOk C σ) (hf : VRels σ fr a.tmps.toList) (s : Sim σ h w) (hk : p.run C ops (slotF slots) fr h K)
  (hQ : ∀ fr' h' σ' a' w', K fr' h' → Mv σ h w σ' h' w' → VRels σ' fr' a'.tmps.toList → a'.defers = a.defers → Q .normal a' w') : (Code.region id ops true).wpIn (FR rd) 0 C.P Q a w := by
 unfold planOk at hd
 have m0 : Mv σ h w σ h { w with drawn := w.drawn + 1 } := s.same rfl ⟨rfl, rfl, rfl⟩
 refine wpIn_region_any hm ?_
 have hrep : ∀ k, (Array.replicate ops.size false).getD k false = false := fun k => by
  simp only [Array.getD]
  split <;> simp
 refine draw_plan ok ops.size (rem := List.range ops.size) (by simp) hd ⟨by simp, fun k => ?_, List.nodup_range, fun k o ho hkl => ?_⟩ hy hf m0.sim hk fun fr' h' σ' a' w' k m v d => hQ fr' h' σ' a' w' k (m0.trans m) v d
 ·rw [hrep]; simp
 ·rw [hrep] at hkl; cases hkl
end
end Go.Ab

namespace Go.Ab
def AObj.mapc (f : AV → AV) : AObj → AObj
 | .vec ep rs => .vec ep (rs.map fun r => r.map f)
 | .map ep es => .map ep (es.map fun p => (f p.1, f p.2))
 | .hole => .hole
def mapV (f : AV → AV) : AV → AV
 | .agg cs => .agg (cs.map f)
 | .tup cs => .tup (cs.map fun a => match a with | .agg cs => .agg (cs.map f) | a => f a)
 | a => f a
theorem mapc_cells {σ : Sg} {f : AV → AV} {cs : List AV} {us : List Value} (hq : ∀ a ∈ cs, ∀ u, VRel σ a u → VRel σ (f a) u) (hh : ∀ (i : Nat) (c : AV) (u : Value), cs[i]? = some c → us[i]? = some u → VRel σ c u) :
  ∀ (i : Nat) (c : AV) (u : Value), (cs.map f)[i]? = some c → us[i]? = some u → VRel σ c u := by
 intro i c u x y
 rw [List.getElem?_map, Option.map_eq_some_iff] at x
 obtain ⟨c', x, rfl⟩ := x
 exact hq _ (List.mem_of_getElem? x) _ (hh i c' u x y)
theorem VRel.mapV {σ : Sg} {f : AV → AV} {a : AV} {v : Value} (hq : ∀ x ∈ celV a, ∀ u, VRel σ x u → VRel σ (f x) u) (hv : VRel σ a v) : VRel σ (mapV f a) v := by
 unfold celV at hq
 unfold Ab.mapV
 split at hq
 ·rename_i cs
  cases hv with
  | @agg _ _ vs l o hh => exact .agg (by simpa using l) o fun i c v x y => mapc_cells (us := vs.toList) hq (fun i c v x y => hh i c v x (by simpa using y)) i c v x (by simpa using y)
 ·rename_i cs
  cases hv with
  | @tup _ _ vs l hh =>
   refine .tup (by simpa using l) fun i c v x y => ?_
   rw [List.getElem?_map, Option.map_eq_some_iff] at x
   obtain ⟨c', x, rfl⟩ := x
   have hc := hh i c' v x y
   have hq' : ∀ a ∈ (match c' with | .agg cs => cs | a => [a]), ∀ u, VRel σ a u → VRel σ (f a) u := fun a ha => hq a (List.mem_flatMap.2 ⟨c', List.mem_of_getElem? x, ha⟩)
   split at hq'
   ·cases hc with
    | @agg _ _ vs l o hh => exact .agg (by simpa using l) o fun i c v x y => mapc_cells (us := vs.toList) hq' (fun i c v x y => hh i c v x (by simpa using y)) i c v x (by simpa using y)
   ·exact hq' _ (List.mem_singleton.2 rfl) _ hc
 ·rename_i h1 h2
  first
   | exact hq _ (List.mem_singleton.2 rfl) _ hv
   | (
     split
     ·exact absurd rfl (h1 _)
     ·exact absurd rfl (h2 _)
     ·exact hq _ (List.mem_singleton.2 rfl) _ hv)
theorem Sim.recell {σ : Sg} {h : Heap} {w : World} {f : AV → AV} (s : Sim σ h w) (hq : ∀ (i : Id) (o : AObj), h[i]? = some o → ∀ a ∈ celO o, ∀ u, VRel σ a u → VRel σ (f a) u) :
  Mv σ h w σ ⟨h.st.map (AObj.mapc f), h.dy.map (AObj.mapc f)⟩ w := by
 have obj : ∀ (i : Id) (x : AObj), (⟨h.st.map (AObj.mapc f), h.dy.map (AObj.mapc f)⟩ : Heap)[i]? = some x → ∃ o, h[i]? = some o ∧ x = o.mapc f := by
  intro i x hx
  cases i with
  | s m =>
   have hx : (h.st.map (AObj.mapc f))[m]? = some x := hx
   rw [List.getElem?_map, Option.map_eq_some_iff] at hx
   obtain ⟨o, h1, rfl⟩ := hx
   exact ⟨o, h1, rfl⟩
  | d m =>
   have hx : (h.dy.map (AObj.mapc f))[m]? = some x := hx
   rw [List.getElem?_map, Option.map_eq_some_iff] at hx
   obtain ⟨o, h1, rfl⟩ := hx
   exact ⟨o, h1, rfl⟩
 have blk_m : ∀ (i : Id) (o : AObj), (o.mapc f).blk σ i = o.blk σ i := fun i o => by cases o <;> rfl
 refine ⟨.refl _, ⟨s.fm, fun i x hx => ?_, fun i j oi oj b hi hj bi bj => ?_, s.fresh, s.rm⟩, rfl, rfl, rfl, Nat.le_refl _, fun _ _ _ => rfl, fun b hb => ?_, fun _ x => .inl x⟩
 ·obtain ⟨o, ho, rfl⟩ := obj i x hx
  have hok := s.obj _ _ ho
  have hc := hq i o ho
  cases o with
  | hole => trivial
  | vec ep' rs =>
   rcases hok with ⟨h1, h2⟩ | ⟨blk, st, sz, m, size, cs, T, h1, h2, h3, h4, h5, h6, h7, h8⟩
   ·exact .inl ⟨by rw [h1]; rfl, h2⟩
   ·refine .inr ⟨blk, st, sz, m, size, cs, T, h1, h2, h3, by simpa using h4, h5, h6, fun i row hr => ?_, fun i j c x => ?_⟩
    ·rw [List.getElem?_map, Option.map_eq_some_iff] at hr
     obtain ⟨r, hr, rfl⟩ := hr
     simpa using h7 i r hr
    ·obtain ⟨c', x', rfl⟩ := cellAt_map x
     obtain ⟨v, a, b, d⟩ := h8 i j c' x'
     obtain ⟨row, hr, hj⟩ := cellAt_get x'
     exact ⟨v, a, b, hc c' (List.mem_flatten.2 ⟨row, List.mem_of_getElem? hr, List.mem_of_getElem? hj⟩) _ d⟩
  | map ep' es =>
   obtain ⟨blk, st, sz, m, size, ents, clock, h1, h2, h3, h4, h5⟩ := hok
   refine ⟨blk, st, sz, m, size, ents, clock, h1, h2, h3, by simpa using h4, fun i k v e x y => ?_⟩
   rw [List.getElem?_map, Option.map_eq_some_iff] at x
   obtain ⟨⟨k', v'⟩, x, e1⟩ := x
   cases e1
   obtain ⟨a, b⟩ := h5 i k' v' e x y
   have hm := List.mem_of_getElem? x
   exact ⟨hc _ (List.mem_flatMap.2 ⟨_, hm, by simp⟩) _ a, hc _ (List.mem_flatMap.2 ⟨_, hm, by simp⟩) _ b⟩
 ·obtain ⟨o, ho, rfl⟩ := obj i oi hi
  obtain ⟨o', ho', rfl⟩ := obj j oj hj
  rw [blk_m] at bi bj
  exact s.apart _ _ o o' b ho ho' bi bj
 ·obtain ⟨i, x, hx, hbx⟩ := hb
  obtain ⟨o, ho, rfl⟩ := obj i x hx
  rw [blk_m] at hbx
  exact .inl ⟨_, o, ho, hbx⟩
def mcS (n len ep2 : Nat) : AV → AV
 | .oslc (.s k) ep sz off l lim => match Nat.beq k n with
  | true => .oslc (.d len) ep2 sz off l lim
  | false => .oslc (.s k) ep sz off l lim
 | a => a
def mvSK (n : Nat) (fr : List AV) (h : Heap) (K : List AV → Heap → Prop) : Prop :=
 match h.st[n]? with
 | some (.vec ep rows) => eqsP n ep (fr.flatMap celV) ∧ allO n ep (h.st.set n .hole) ∧ allO n ep h.dy ∧ eqsP n ep (celO (.vec ep rows)) ∧
   ∀ ep2, K (fr.map (mapV (mcS n h.dy.length ep2))) ⟨(h.st.set n .hole).map (AObj.mapc (mcS n h.dy.length ep2)), (h.dy ++ [AObj.vec ep2 rows]).map (AObj.mapc (mcS n h.dy.length ep2))⟩
 | _ => K fr h
theorem mvSK_sound {n : Nat} {σ : Sg} {fr : List AV} {h : Heap} {w : World} {vs : List Value} {K : List AV → Heap → Prop} (hf : VRels σ fr vs) (s : Sim σ h w) (hk : mvSK n fr h K) :
  ∃ σ' fr' h', K fr' h' ∧ Mv σ h w σ' h' w ∧ VRels σ' fr' vs := by
 unfold mvSK at hk
 split at hk
 case h_2 => exact ⟨σ, fr, h, hk, .refl s, hf⟩
 rename_i ep rows hn
 have hn : h[Id.s n]? = some (.vec ep rows) := hn
 obtain ⟨q0, q1, q2, q3, hk⟩ := hk
 obtain ⟨ep2, σ', m, hρ⟩ := s.move (n := n) (ep := ep) hn rfl
 have cell : ∀ {c : AV}, okS n ep c → ∀ u, VRel σ' c u → VRel σ' (mcS n h.dy.length ep2 c) u := by
  intro c hc u hu
  unfold mcS
  split
  ·rename_i k ep' sz off l lim
   split
   ·rename_i e
    have e : k = n := by simpa using e
    subst e
    obtain rfl : ep' = ep := hc rfl
    have back : ∀ pl, σ'.ρ (.s k) ep' = some pl → σ.ρ (.s k) ep' = some pl := by
     intro pl hp
     have hob := s.obj _ _ hn
     rcases hob with ⟨_, x⟩ | ⟨blk, st, sz1, n1, size, cs, T, x, _⟩
     ·have := m.le.ρ _ _ _ x; rw [this] at hp; rw [x, hp]
     ·have := m.le.ρ _ _ _ x; rw [this] at hp; rw [x, hp]
    exact (VRel.reid (σ := σ') (σ' := σ') ⟨fun _ _ _ x => x, fun _ _ x => x⟩ (fun pl x => hρ pl (back pl x))).1 hu
   ·exact hu
  ·exact hu
 have ob : ∀ (i : Id) (o : AObj), (⟨h.st.set n .hole, h.dy ++ [.vec ep2 rows]⟩ : Heap)[i]? = some o → ∀ a ∈ celO o, okS n ep a := by
  intro i o ho a ha
  cases i with
  | s k => exact eqsP_all (allO_get q1 o (List.mem_of_getElem? (show (h.st.set n .hole)[k]? = some o from ho))) a ha
  | d k =>
   have hm := List.mem_of_getElem? (show (h.dy ++ [.vec ep2 rows])[k]? = some o from ho)
   rcases List.mem_append.1 hm with hm | hm
   ·exact eqsP_all (allO_get q2 o hm) a ha
   ·obtain rfl := List.mem_singleton.1 hm
    exact eqsP_all q3 a ha
 have m2 := Sim.recell (f := mcS n h.dy.length ep2) m.sim fun i o ho a ha u hu => cell (ob i o ho a ha) u hu
 refine ⟨σ', _, _, hk ep2, m.trans m2, ⟨by simpa using hf.1, fun i a v x y => ?_⟩⟩
 rw [List.getElem?_map, Option.map_eq_some_iff] at x
 obtain ⟨a', x, rfl⟩ := x
 exact VRel.mapV (fun c hc u hu => cell (eqsP_all q0 c (List.mem_flatMap.2 ⟨a', List.mem_of_getElem? x, hc⟩)) u hu) ((hf.2 i a' v x y).mono m.le)
end Go.Ab
