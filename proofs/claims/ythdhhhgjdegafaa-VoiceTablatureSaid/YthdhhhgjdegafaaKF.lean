/-
  What is proved here serves the law's text: each part says its own claim and its conditions. No condition is left open.
-/
import Derived.IntWalk
import Derived.Test.YthdhhhgjdegafaaKE
import Derived.OpenShut
import Derived.ProofKit
set_option linter.unusedSimpArgs false
set_option linter.unusedVariables false

namespace Go.Ab
theorem qs : (∀ (p : Prop) [Decidable p], (decide p = true) = p) ∧ (∀ (p : Prop) [Decidable p], decide p = false ↔ ¬p) ∧ (∀ {α : Type} [BEq α] [LawfulBEq α] (a b : α), (a == b) = true ↔ a = b) ∧ (∀ {α : Type} [BEq α] [LawfulBEq α] (a b : α), (a == b) = false ↔ a ≠ b) ∧ (∀ {α : Type} [BEq α] [LawfulBEq α] (a b : α), (a != b) = true ↔ a ≠ b) ∧ (∀ {α : Type} [BEq α] [LawfulBEq α] (a b : α), (a != b) = false ↔ a = b) ∧ (∀ {α : Type} (a b : α), (a ≠ b) = ¬(a = b)) ∧ ((¬False) = True) ∧ ((¬True) = False) ∧ (∀ b : Bool, (¬(b = true)) = (b = false)) ∧ (∀ b : Bool, ((!b) = true) = (b = false)) ∧ (∀ b : Bool, ((!b) = false) = (b = true)) ∧ (∀ a b : Int, ¬a < b ↔ b ≤ a) ∧ (∀ a b : Int, ¬a ≤ b ↔ b < a) :=
 ⟨fun p _ => decide_eq_true_eq, fun p _ => decide_eq_false_iff_not, fun a b => beq_iff_eq, fun a b => beq_eq_false_iff_ne, fun a b => bne_iff_ne, fun a b => bne_eq_false_iff_eq, fun a b => ne_eq a b, not_false_eq_true, not_true_eq_false, Bool.not_eq_true, Bool.not_eq_true', Bool.not_eq_false', fun a b => Int.not_lt, fun a b => Int.not_le⟩
theorem dk {C : Ctx} {o : Array Oper} {s : List (Nat × Nat)} {c : List Nat} {K : Prop} (h : drawOk C o s c = true) (k : K) : drawOk C o s c = true ∧ K := ⟨h, k⟩
theorem pk {C : Ctx} {o : Array Oper} {s : List (Nat × Nat)} {p : Plan} {K : Prop} (h : planOk C o s p = true) (k : K) : planOk C o s p = true ∧ K := ⟨h, k⟩
theorem qdk {C : Ctx} {o : Array Oper} {s : List (Nat × Nat)} {c : List Nat} (h : drawOk C o s c = true) : drawOk C o s c = true := h
theorem qpk {C : Ctx} {o : Array Oper} {s : List (Nat × Nat)} {p : Plan} (h : planOk C o s p = true) : planOk C o s p = true := h
theorem pret_of {C : Ctx} (ok : COk C) (hm : C.P.follows .mixedOrders = true) {A : Ann} {f : FuncId} {fn : Func} {c : Code} (n : Nat) (hf : C.P.funcs[f]? = some fn) (hb : fn.body = some c) {args : List AV} {r : AV}
  (hk : forceR (frame0 args fn.ntmps) fun fr => forceHR (heap0 Heap.nil n) fun h => aexR C A c fr h fun e fr h' => match e with
   | .normal => resR C.ti fn.results.toList fr h' fun vs => retV vs fun v => frzK h' v fun r' _ => r'.isPure2 = true ∧ r' = r
   | .ret => resR C.ti fn.results.toList fr h' fun vs => retV vs fun v => frzK h' v fun r' _ => r'.isPure2 = true ∧ r' = r
   | .exit _ => False) (hy : C.yl = none := by rfl) : PRet C.P f args r := ⟨⟨fn_of ok hm n hf hb hk hy⟩⟩
theorem wrapI {x : Int} (h1 : -9223372036854775808 ≤ x) (h2 : x ≤ 9223372036854775807) : IntKind.i64.wrap x = x := IntWalk.i64_in _ (by omega)
theorem go0 {p q : Prop} (k : q) (h : p := by first | exact rfl | omega | (simp (disch := omega) only [wrapI]; first | omega | (simp; omega)) | (simp; omega)) : p ∧ q := ⟨h, k⟩
theorem go1 {p q : Prop} (k : q) (h : p := by first | exact qdk (by kernel_rfl) | exact qpk (by kernel_rfl) | exact rfl | omega | (simp (disch := omega) only [wrapI]; first | omega | (simp; omega)) | (simp; omega)) : p ∧ q := ⟨h, k⟩
theorem optS {o : Option (List AV)} {a : List AV} {K : List AV → Prop} (h : o = some a) (hk : K a) : (match (generalizing := false) o with | some a => K a | none => False) := by
 subst h; exact hk
theorem wk_lift {C : Ctx} {c : Code} {fr : List AV} {h : Heap} {K : AE → List AV → Heap → Prop} (t id sz : Nat) (ht : fr[t]? = some .nils)
  (hk : ∀ ep, WK C c (fr.set t (.oslc (.s id) ep sz 0 0 false)) (h.set (.s id) (.vec ep [])) K) : WK C c fr h K := by
 refine ⟨fun rd B σ w a Q hrd hy hB s hf hd hQ => ?_⟩
 obtain ⟨σ', fr', h', k, m, r⟩ := liftK_sound [(t, id, sz)] (K := fun fr h => WK C c fr h K) hf s (by unfold liftK; rw [ht]; exact hk)
 exact k.use rd B σ' w a Q hrd (hy.mono m.le) hB m.sim r (hd.mono m.le) fun e fr2 h2 σ2 a2 w2 k2 m2 => hQ e fr2 h2 σ2 a2 w2 k2 (m.trans m2)
theorem ifB {b : Bool} {x y : Prop} : (b = true → x) → (b = false → y) → (match b with | true => x | false => y) := by
 intro h1 h2
 cases b
 ·exact h2 rfl
 ·exact h1 rfl
def frOf : Nat → Nat → List (Nat × AV) → List AV
 | _, 0, _ => []
 | i, n + 1, [] => .u :: frOf (i + 1) n []
 | i, n + 1, (k, v) :: l => match Nat.beq i k with
  | true => v :: frOf (i + 1) n l
  | false => .u :: frOf (i + 1) n ((k, v) :: l)
@[irreducible] def Back {S : Type} (p : S → Prop) : Prop := ∃ s, p s
theorem back_of {S : Type} {p : S → Prop} (s : S) (h : p s) : Back p := by
 unfold Back; exact ⟨s, h⟩
theorem back_ex {S : Type} {p : S → Prop} (h : Back p) : ∃ s, p s := by
 unfold Back at h; exact h
theorem loopM {C : Ctx} {c : Code} (ok : COk C) (hm : C.P.follows .mixedOrders = true) {A : Ann} (l : List Nat) (kp : List Nat) {S : Type} (fr : S → List AV) (h : S → Heap) (μ : S → Nat) {K : AE → List AV → Heap → Prop} {fr0 : List AV} {h0 : Heap} (s0 : S)
  (e1 : maskF 0 l fr0 = fr s0) (e2 : maskH 0 kp h0 = h s0)
  (hround : ∀ s, aexR C A c (fr s) (h s) fun e fr' h' => match e with
   | .normal => Back fun s' => maskF 0 l fr' = fr s' ∧ maskH 0 kp h' = h s' ∧ μ s' < μ s
   | .exit id => K (.exit id) fr' h'
   | .ret => K .ret fr' h') : WK C (.loop c) fr0 h0 K := by
 refine ⟨fun rd B σ w a Q hrd hy hB sm hf hd hQ => ?_⟩
 intro b k cs hro hbf hroom
 have mask : ∀ {σ' : Sg} {w' : World} {h' : Heap}, Sim σ' h' w' → Mv σ' h' w' σ' (maskH 0 kp h') w' := fun s => s.forget fun i o x => maskH_get _ _ _ _ _ x
 have m0 := mask sm
 rw [e2] at m0
 have key : ∀ n s1 σ' w' a', μ s1 = n → Mv σ h0 w σ' (h s1) w' → VRels σ' (fr s1) a'.tmps.toList → DfOk B σ' a'.defers →
   ∃ e a'' w'', Q e a'' w'' ∧ ArrivesIn (Machine.fenced C.P (FR rd)) C.P (lone (b.atR a' (.code c :: .inLoop c :: k)) cs w') b k cs e a'' w'' := by
  intro n
  induction n using Nat.strongRecOn with
  | _ n ih =>
   intro s1 σ' w' a' hn m hv hd'
   let Q0 : Exit → Act → World → Prop := fun e a2 w2 => match e with
    | .normal => ∃ s2 σ2, μ s2 < μ s1 ∧ Mv σ h0 w σ2 (h s2) w2 ∧ VRels σ2 (fr s2) a2.tmps.toList ∧ DfOk B σ2 a2.defers
    | e => Q e a2 w2
   have hx := hround s1
   rw [aexR_eq] at hx
   have hr : c.wpIn (FR rd) 0 C.P Q0 a' w' := (aexec_sound ok hm hx).use rd B σ' w' a' Q0 hrd (hy.mono m.le) (Nat.le_trans hB m.size) m.sim hv hd' fun e fr2 h2 σ2 a2 w2 k2 m2 v2 d2 => by
    cases e with
    | normal =>
     obtain ⟨s2, e3, e4, hlt⟩ := back_ex k2
     have m3 := mask m2.sim
     rw [e4] at m3
     have v3 := maskF_rel fr2 0 l _ v2
     rw [e3] at v3
     exact ⟨s2, σ2, hlt, (m.trans m2).trans m3, v3, d2⟩
    | exit id => exact hQ (.exit id) fr2 h2 σ2 a2 w2 k2 (m.trans m2) v2 d2
    | ret => exact hQ .ret fr2 h2 σ2 a2 w2 k2 (m.trans m2) v2 d2
   obtain ⟨e, a2, w2, hq, harr⟩ := hr b (.inLoop c :: k) cs hro hbf hroom
   cases e with
   | normal =>
    obtain ⟨s2, σ2, hlt, m2, v2, d2⟩ := hq
    obtain ⟨e3, a3, w3, hq3, harr3⟩ := ih (μ s2) (hn ▸ hlt) s2 σ2 w2 a2 rfl m2 v2 d2
    exact ⟨e3, a3, w3, hq3, .of_steps (StepsIn.trans harr (.one (fenced_calm hbf hroom rfl) stepR_inLoop)) harr3⟩
   | exit id => exact ⟨_, a2, w2, hq, .pass (x := .inLoop c) rfl (fun _ _ => .inl (by simp)) harr⟩
   | goto l => exact ⟨_, a2, w2, hq, .pass (x := .inLoop c) rfl (fun _ _ => .inl (by simp)) harr⟩
   | ret => exact ⟨_, a2, w2, hq, .pass (x := .inLoop c) rfl (fun _ _ => .inl (by simp)) harr⟩
   | panic ch => exact ⟨_, a2, w2, hq, .pass (x := .inLoop c) rfl (fun _ _ => .inl (by simp)) harr⟩
   | outgrown => exact ⟨_, a2, w2, hq, .pass (x := .inLoop c) rfl (fun _ _ => .inl (by simp)) harr⟩
 have v0 := maskF_rel fr0 0 l _ hf
 rw [e1] at v0
 obtain ⟨e, a', w', hq, harr⟩ := key _ s0 σ w a rfl m0 v0 hd
 exact ⟨e, a', w', hq, .of_steps (.one (fenced_calm hbf hroom rfl) stepR_loop) harr⟩
def unrR (C : Ctx) (A : Ann) (c : Code) (K : AE → List AV → Heap → Prop) (n : Nat) (fr : List AV) (h : Heap) : Prop :=
 Nat.rec (motive := fun _ => List AV → Heap → Prop) (fun _ _ => False) (fun _ ih fr h => aexR C A c fr h fun e fr' h' => match e with
  | .normal => forceR fr' fun fr' => forceHR h' fun h' => ih fr' h'
  | .exit id => K (.exit id) fr' h'
  | .ret => K .ret fr' h') n fr h
theorem loopU {C : Ctx} {c : Code} (ok : COk C) (hm : C.P.follows .mixedOrders = true) {A : Ann} (n : Nat) {K : AE → List AV → Heap → Prop} {fr0 : List AV} {h0 : Heap} (hk : unrR C A c K n fr0 h0) : WK C (.loop c) fr0 h0 K := by
 refine ⟨fun rd B σ w a Q hrd hy hB sm hf hd hQ => ?_⟩
 intro b k cs hro hbf hroom
 have key : ∀ n fr1 h1 σ' w' a', unrR C A c K n fr1 h1 → Mv σ h0 w σ' h1 w' → VRels σ' fr1 a'.tmps.toList → DfOk B σ' a'.defers →
   ∃ e a'' w'', Q e a'' w'' ∧ ArrivesIn (Machine.fenced C.P (FR rd)) C.P (lone (b.atR a' (.code c :: .inLoop c :: k)) cs w') b k cs e a'' w'' := by
  intro n
  induction n with
  | zero => intro fr1 h1 σ' w' a' hk; exact hk.elim
  | succ n ih =>
   intro fr1 h1 σ' w' a' hx m hv hd'
   let Q0 : Exit → Act → World → Prop := fun e a2 w2 => match e with
    | .normal => ∃ fr2 h2 σ2, unrR C A c K n fr2 h2 ∧ Mv σ h0 w σ2 h2 w2 ∧ VRels σ2 fr2 a2.tmps.toList ∧ DfOk B σ2 a2.defers
    | e => Q e a2 w2
   have hx : aexR C A c fr1 h1 fun e fr' h' => match e with
    | .normal => forceR fr' fun fr' => forceHR h' fun h' => unrR C A c K n fr' h'
    | .exit id => K (.exit id) fr' h'
    | .ret => K .ret fr' h' := hx
   rw [aexR_eq] at hx
   have hr : c.wpIn (FR rd) 0 C.P Q0 a' w' := (aexec_sound ok hm hx).use rd B σ' w' a' Q0 hrd (hy.mono m.le) (Nat.le_trans hB m.size) m.sim hv hd' fun e fr2 h2 σ2 a2 w2 k2 m2 v2 d2 => by
    cases e with
    | normal =>
     simp only [forceR_eq, forceHR_eq] at k2
     exact ⟨fr2, h2, σ2, k2, m.trans m2, v2, d2⟩
    | exit id => exact hQ (.exit id) fr2 h2 σ2 a2 w2 k2 (m.trans m2) v2 d2
    | ret => exact hQ .ret fr2 h2 σ2 a2 w2 k2 (m.trans m2) v2 d2
   obtain ⟨e, a2, w2, hq, harr⟩ := hr b (.inLoop c :: k) cs hro hbf hroom
   cases e with
   | normal =>
    obtain ⟨fr2, h2, σ2, u2, m2, v2, d2⟩ := hq
    obtain ⟨e3, a3, w3, hq3, harr3⟩ := ih fr2 h2 σ2 w2 a2 u2 m2 v2 d2
    exact ⟨e3, a3, w3, hq3, .of_steps (StepsIn.trans harr (.one (fenced_calm hbf hroom rfl) stepR_inLoop)) harr3⟩
   | exit id => exact ⟨_, a2, w2, hq, .pass (x := .inLoop c) rfl (fun _ _ => .inl (by simp)) harr⟩
   | goto l => exact ⟨_, a2, w2, hq, .pass (x := .inLoop c) rfl (fun _ _ => .inl (by simp)) harr⟩
   | ret => exact ⟨_, a2, w2, hq, .pass (x := .inLoop c) rfl (fun _ _ => .inl (by simp)) harr⟩
   | panic ch => exact ⟨_, a2, w2, hq, .pass (x := .inLoop c) rfl (fun _ _ => .inl (by simp)) harr⟩
   | outgrown => exact ⟨_, a2, w2, hq, .pass (x := .inLoop c) rfl (fun _ _ => .inl (by simp)) harr⟩
 obtain ⟨e, a', w', hq, harr⟩ := key n fr0 h0 σ w a hk (.refl sm) hf hd
 exact ⟨e, a', w', hq, .of_steps (.one (fenced_calm hbf hroom rfl) stepR_loop) harr⟩
end Go.Ab

namespace Go.Ab
structure ACallsY (P : Program) (y : Yl) (f : FuncId) (args : List AV) (h : Heap) (K : AV → Heap → Prop) : Prop where
 use : ∀ (σ : Sg) (w : World) (vs : Array Value), YlOk y σ → Sim σ h w → VRels σ args vs.toList →
  Calls P f vs w fun e w' => ∃ v, e = .returned v ∧ ∃ σ' h' r, K r h' ∧ Mv σ h w σ' h' w' ∧ VRel σ' r v
def Ctx.withY (C : Ctx) (y : Yl) : Ctx := { P := C.P, ti := C.ti, fnok := C.fnok, pureFn := C.pureFn, hFn := C.hFn, xFn := C.xFn, yl := some y, inR := C.inR }
theorem fnY_of {C : Ctx} (ok : COk C) (hm : C.P.follows .mixedOrders = true) {A : Ann} {f : FuncId} {fn : Func} {c : Code} (n : Nat) {y : Yl} (hf : C.P.funcs[f]? = some fn) (hb : fn.body = some c) {args : List AV} {h : Heap} {K : AV → Heap → Prop}
  (hk : forceR (frame0 args fn.ntmps) fun fr => forceHR (heap0 h n) fun h => aexR (C.withY y) A c fr h fun e fr h' => match e with
   | .normal => resR C.ti fn.results.toList fr h' fun vs => retV vs fun v => K v h'
   | .ret => resR C.ti fn.results.toList fr h' fun vs => retV vs fun v => K v h'
   | .exit _ => False) : ACallsY C.P y f args h K := by
 refine ⟨fun σ w vs hy s hv => ?_⟩
 rw [forceR_eq, forceHR_eq, aexR_eq] at hk
 simp only [resR_eq, retV_eq] at hk
 refine acallsC_of (C := C.withY y) ⟨ok.tok, ok.fn⟩ hm n hf hb (A := A) (K := K) ?_ (fun y' e => by cases e; exact hy) s hv
 refine Eq.mp (congrArg (aexec (C.withY y) A c (frame0 args fn.ntmps) (heap0 h n)) (funext fun e => funext fun fr => funext fun h' => ?_)) hk
 cases e <;> rfl
theorem wk_of {C : Ctx} (ok : COk C) (hm : C.P.follows .mixedOrders = true) {A : Ann} {c : Code} {fr : List AV} {h : Heap} {K : AE → List AV → Heap → Prop}
  (hk : forceR fr fun fr => forceHR h fun h => aexR C.round A c fr h K) : WK C.round c fr h K := by
 rw [forceR_eq, forceHR_eq, aexR_eq] at hk
 exact aexec_sound ok.round hm hk
theorem heap_old (w : World) (o : Obj) (b : Nat) (hb : b < w.heap.size) : (w.alloc o).heap[b]? = w.heap[b]? := by
 show (w.heap.push o)[b]? = _
 rw [Array.getElem?_push, if_neg (by omega)]
theorem rangeF {C : Ctx} (ok : COk C) {g : Operand} {ps : Array Tmp} {assign body : Code} {fr : List AV} {h : Heap} {K : AE → List AV → Heap → Prop} {gf : FuncId} {cap : List AV}
  (hg : evl fr g = .fn (.func gf) [] cap) (hfn : C.fnok gf = true)
  (hit : ∀ l fnid T D, ACallsY C.P ⟨l, { state := .ready, pending := none, fn := fnid, tmps := T, params := ps, assign := assign, body := body, defers := D }, fr⟩ gf (.fn (.yield l) [] [] :: cap) h
   (fun _ h' => K .normal fr (h'.trunc h.st.length))) (hin : C.inR = false := by rfl) : WK C (.rangeFunc g ps assign body) fr h K := by
 refine ⟨fun rd B σ w a Q hrd hy hB s hf hd hQ => ?_⟩
 obtain rfl := hrd hin
 refine wpIn_rangeFunc fun fn _ => ?_
 obtain ⟨rc, hrc⟩ : ∃ rc : Loop, rc = { state := .ready, pending := none, fn, tmps := a.tmps, params := ps, assign, body, defers := w.heap.size } := ⟨_, rfl⟩
 obtain ⟨W1, hW1⟩ : ∃ W1, (w.alloc (.deferred (some []))).alloc (.loop rc) = W1 := ⟨_, rfl⟩
 have hL1 : W1.heap[w.heap.size + 1]? = some (.loop rc) := by
  rw [← hW1]; have := World.alloc_heap_new (w.alloc (.deferred (some []))) (.loop rc); rwa [World.size_alloc] at this
 have hK1 : W1.heap[w.heap.size]? = some (.deferred (some [])) := by
  rw [← hW1]; exact (heap_old _ _ _ (by simp)).trans (World.alloc_heap_new w _)
 have hold : ∀ b, b < w.heap.size → W1.heap[b]? = w.heap[b]? := fun b hb => by
  rw [← hW1]
  exact (heap_old _ _ _ (by simp; omega)).trans (heap_old _ _ _ hb)
 have hsz : W1.heap.size = w.heap.size + 2 := by rw [← hW1]; simp
 have hr := evl_rel hf g
 rw [hg] at hr
 generalize hv : a.eval g = u at hr
 cases hr with
 | @fn _ _ _ _ first' cap' l1 l2 v1 v2 =>
 have e1 : first' = #[] := Array.eq_empty_of_size_eq_zero (by simpa using l1.symm)
 subst e1
 obtain ⟨fnn, f1, f2, f3⟩ := ok.fn _ hfn
 let R1 : Nat → Option Obj := fun b => if b = w.heap.size then some (.deferred (some [])) else if b = w.heap.size + 1 then some (.loop rc) else σ.RM b
 have s1 : Sim (σ.withRM R1) h W1 := s.withRM R1 (fun b hb => hold b (Live.lt s hb)) (fun b hb => by
   cases e : σ.FM b with
   | none => exact absurd e hb
   | some cs => obtain ⟨T, fz, x⟩ := s.fm b cs e; exact hold b (Array.getElem?_eq_some_iff.1 x).1) fun b o x => by
  have x : (if b = w.heap.size then some (.deferred (some [])) else if b = w.heap.size + 1 then some (.loop rc) else σ.RM b) = some o := x
  by_cases c1 : b = w.heap.size
  ·rw [if_pos c1] at x; obtain rfl := Option.some.inj x; rw [c1]; exact ⟨hK1, rfl⟩
  ·rw [if_neg c1] at x
   by_cases c2 : b = w.heap.size + 1
   ·rw [if_pos c2] at x; obtain rfl := Option.some.inj x; rw [c2]; exact ⟨hL1, rfl⟩
   ·rw [if_neg c2] at x
    obtain ⟨r1, r2⟩ := s.rm b o x
    exact ⟨by rw [hold b (Array.getElem?_eq_some_iff.1 r1).1]; exact r1, r2⟩
 have le1 : Sg.Le σ (σ.withRM R1) := ⟨fun _ _ _ x => x, fun _ _ x => x, fun b o x => by
  have hb := (Array.getElem?_eq_some_iff.1 (s.rm b o x).1).1
  show (if b = w.heap.size then some (.deferred (some [])) else if b = w.heap.size + 1 then some (.loop rc) else σ.RM b) = some o
  rw [if_neg (by omega), if_neg (by omega)]; exact x⟩
 have rl : (σ.withRM R1).RM (w.heap.size + 1) = some (.loop rc) := by
  show (if w.heap.size + 1 = w.heap.size then some (.deferred (some [])) else if w.heap.size + 1 = w.heap.size + 1 then some (.loop rc) else σ.RM (w.heap.size + 1)) = _
  rw [if_neg (by omega), if_pos rfl]
 have rD : (σ.withRM R1).RM w.heap.size = some (.deferred (some [])) := by
  show (if w.heap.size = w.heap.size then some (.deferred (some [])) else if w.heap.size = w.heap.size + 1 then some (.loop rc) else σ.RM w.heap.size) = _
  rw [if_pos rfl]
 have hyl : YlOk ⟨w.heap.size + 1, rc, fr⟩ (σ.withRM R1) := ⟨rl, by rw [hrc], by rw [hrc], by rw [hrc]; exact hf.mono le1⟩
 have hit' := hit (w.heap.size + 1) fn a.tmps w.heap.size
 rw [← hrc] at hit'
 have hargs : VRels (σ.withRM R1) (.fn (.yield (w.heap.size + 1)) [] [] :: cap) (#[Value.func (.yield (w.heap.size + 1)) #[] #[]] ++ cap').toList := by
  rw [Array.toList_append]
  refine VRels.append (as := [AV.fn (.yield (w.heap.size + 1)) [] []]) (vs := [Value.func (.yield (w.heap.size + 1)) #[] #[]]) (VRels.cons (VRel.fn rfl rfl (fun i c v x => by simp at x) (fun i c v x => by simp at x)) .nil) ⟨by rw [Array.length_toList]; exact l2, fun i c v x y => (v2 i c v x (by simpa using y)).mono le1⟩
 refine ⟨w.heap.size + 1, [{ target := .collected w.heap.size, args := #[] }], W1, { target := .fn (.func gf) cap', args := #[Value.func (.yield (w.heap.size + 1)) #[] #[]] }, W1, gf,
  #[Value.func (.yield (w.heap.size + 1)) #[] #[]] ++ cap', W1, ?_, ?_, ?_, ?_, (fun x => by cases x), ?_⟩
 ·rw [← hW1, hrc]; exact run_enterLoop_outer _ _ _ _ _
 ·simp only [resolve, hv]
  simp [go_sem]
 ·intro f' _; trivial
 ·have f2' : ¬ fnn.name = "runtime.NumGoroutine" := by simpa using f2
  have f3' : ¬ fnn.body = none := by intro e; rw [e] at f3; cases f3
  simp [invoke, callFunc, f1, f2', f3']
 ·refine callsFR ((hit'.use (σ.withRM R1) W1 _ hyl s1 hargs).mono ?_)
  rintro e w2 ⟨v, rfl, σ2, h2, r, hk, m2, _⟩
  have rl2 : σ2.RM (w.heap.size + 1) = some (.loop rc) := m2.le.RM _ _ rl
  obtain ⟨hl2, _⟩ := m2.sim.rm _ _ rl2
  have hlt2 := (Array.getElem?_eq_some_iff.1 hl2).1
  have nl2 : ¬ Live σ2 h2 (w.heap.size + 1) := Live.notRec m2.sim hl2 rfl
  refine ⟨rc.pending, _, run_endLoop hl2 (by rw [hrc]; simp), ?_⟩
  have hpn : rc.pending = none := by rw [hrc]
  rw [hpn]
  let R2 : Nat → Option Obj := fun b => if b = w.heap.size + 1 then none else σ2.RM b
  have oth : ∀ (o : Obj) b, b ≠ w.heap.size + 1 → (w2.putObj (w.heap.size + 1) o).heap[b]? = w2.heap[b]? := fun o b hb => World.putObj_heap_other hb
  generalize hX : (Obj.loop { rc with state := .exhausted, pending := none }) = X
  have s2 : Sim (σ2.withRM R2) h2 (w2.putObj (w.heap.size + 1) X) := m2.sim.withRM R2
   (fun b hb => oth X b (by rintro rfl; exact nl2 hb)) (fun b hb => oth X b (by rintro rfl; exact hb (m2.sim.notFM hl2 rfl))) fun b o x => by
    have x : (if b = w.heap.size + 1 then none else σ2.RM b) = some o := x
    by_cases hb : b = w.heap.size + 1
    ·rw [if_pos hb] at x; cases x
    ·rw [if_neg hb] at x; rw [oth X b hb]; exact m2.sim.rm b o x
  have le2 : Sg.Le σ (σ2.withRM R2) := ⟨fun _ _ _ x => m2.le.ρ _ _ _ x, fun _ _ x => m2.le.FM _ _ x, fun b o x => by
   have hb := (Array.getElem?_eq_some_iff.1 (s.rm b o x).1).1
   show (if b = w.heap.size + 1 then none else σ2.RM b) = some o
   rw [if_neg (by omega)]
   exact m2.le.RM _ _ (le1.RM _ _ x)⟩
  have hs2 := m2.size
  have m : Mv σ h w (σ2.withRM R2) h2 (w2.putObj (w.heap.size + 1) X) := by
   refine ⟨le2, s2, ?_, ?_, ?_, by rw [World.putObj_size]; omega, fun b hb hnl => ?_, fun b hb => ?_, fun b hb => ?_⟩
   ·exact m2.os.trans (by rw [← hW1]; rfl)
   ·exact m2.tape.trans (by rw [← hW1]; rfl)
   ·exact m2.output.trans (by rw [← hW1]; rfl)
   ·rw [oth X b (by omega), m2.block b (by omega) (fun x => hnl (live_withRM.1 x)), hold b hb]
   ·rcases m2.live b (live_withRM.1 hb) with h3 | h3
    ·exact .inl (live_withRM.1 h3)
    ·exact .inr (by omega)
   ·rcases m2.new b hb with h3 | h3 | h3
    ·exact .inl h3
    ·exact .inr (.inl (live_withRM.1 h3))
    ·exact .inr (.inr (by omega))
  have mt : Mv (σ2.withRM R2) h2 (w2.putObj (w.heap.size + 1) X) (σ2.withRM R2) (h2.trunc h.st.length) (w2.putObj (w.heap.size + 1) X) := s2.forget fun i o ho => .inr (Heap.trunc_get ho)
  refine hQ .normal fr _ _ { a with defers := [{ target := .collected w.heap.size, args := #[] }] ++ a.defers } _ hk (m.trans mt) (hf.mono le2) ?_
  obtain ⟨ls, d1, d2, d3⟩ := hd
  refine ⟨w.heap.size :: ls, by rw [d1]; rfl, List.nodup_cons.2 ⟨fun hx => ?_, d2⟩, fun D hD => ?_⟩
  ·have := (Array.getElem?_eq_some_iff.1 (s.rm _ _ (d3 _ hx).2).1).1
   omega
  ·rcases List.mem_cons.1 hD with rfl | hD
   ·refine ⟨hB, ?_⟩
    show (if w.heap.size = w.heap.size + 1 then none else σ2.RM w.heap.size) = _
    rw [if_neg (by omega)]
    exact m2.le.RM _ _ rD
   ·exact ⟨(d3 D hD).1, le2.RM _ _ (d3 D hD).2⟩
end Go.Ab

namespace Go.Ab
open Go.RowKit
def frozenS (w : World) : Sg := { ρ := fun _ _ => none, FM := fun b => match w.heap[b]? with | some (.cells cs _ _) => some cs | _ => none, RM := fun _ => none }
theorem frozenS_pure (w : World) : (frozenS w).pure = frozenS w := rfl
theorem frozenS_sim (w : World) : Sim (frozenS w) Heap.nil w := by
 refine ⟨fun b cs x => ?_, fun i o ho => (Heap.nil_some ho).elim, fun i j oi oj b hi => (Heap.nil_some hi).elim, ⟨0, fun _ _ _ => rfl⟩, fun b o x => by cases x⟩
 simp only [frozenS] at x
 split at x
 ·rename_i cs' T fz h; cases x; exact ⟨T, fz, h⟩
 ·cases x
theorem frozen_cell {w : World} {b off : Nat} {v : Value} (h : w.cell? ⟨b, off, none⟩ = some v) : ∃ cs, (frozenS w).FM b = some cs ∧ cs[off]? = some v := by
 unfold World.cell? at h
 split at h
 ·rename_i cs T fz e
  simp at h e
  exact ⟨cs, by simp only [frozenS]; rw [e], h⟩
 ·cases h
def contig (ti : TI) : Nat → List (Nat × Nat) → Option Nat
 | off, [] => some off
 | off, f :: r => match ti f.2 with
  | some d => if f.1 = off then contig ti (off + d.size) r else none
  | none => none
def goodT (ti : TI) : Nat → Nat → Bool
 | 0, _ => false
 | n + 1, t => match ti t with
  | some d => match d.kind with
   | .int _ | .bool | .str => true
   | .slice e => (match ti e with | some de => de.size != 0 | none => false) && goodT ti n e
   | .struct fs => contig ti 0 fs == some d.size && fs.all fun f => goodT ti n f.2
   | .arr m e => (match ti e with | some de => contig ti 0 ((List.range m).map fun i => (i * de.size, e)) == some d.size | none => false) && goodT ti n e
   | _ => false
  | none => false
def Shp (ti : TI) : Nat → Nat → List AV → Prop
 | 0, _, _ => False
 | n + 1, t, as => match ti t with
  | some d => match d.kind with
   | .int k => ∃ i, as = [.int k i] ∧ k.min ≤ i ∧ i ≤ k.max
   | .bool => ∃ b, as = [.bool b]
   | .str => ∃ s : ByteArray, as = [.str s] ∧ s.size ≤ maxLen
   | .slice e => ∃ de rows, ti e = some de ∧ as = [.lslc de.size rows 0 rows.length false] ∧ rows.length ≤ maxLen ∧ ∀ r ∈ rows, Shp ti n e r
   | .struct fs => as.length = d.size ∧ ∀ f ∈ fs, ∃ df, ti f.2 = some df ∧ Shp ti n f.2 ((as.drop f.1).take df.size)
   | .arr m e => as.length = d.size ∧ ∃ de, ti e = some de ∧ ∀ i, i < m → Shp ti n e ((as.drop (i * de.size)).take de.size)
   | _ => False
  | none => False
section
variable {P : Program} {ti : TI}
theorem DOk.cells {t : Nat} {d : TD} (h : DOk P t d) : P.cellsOf t = d.size := by
 obtain ⟨⟨i, z, h1, h2, _⟩, _⟩ := h
 simp [Program.cellsOf, h1, h2]
def us (n : Nat) : List AV := List.replicate n .u
theorem mapM_range {α : Type} {f : Nat → Option α} : ∀ {n : Nat} {l : List α}, (List.range n).mapM f = some l → l.length = n ∧ ∀ i, i < n → f i = l[i]? := by
 intro n
 induction n with
 | zero => intro l h; simp at h; subst h; exact ⟨rfl, fun i hi => by omega⟩
 | succ n ih =>
  intro l h
  rw [List.range_succ, List.mapM_append] at h
  cases h1 : (List.range n).mapM f with
  | none => rw [h1] at h; cases h
  | some l1 =>
   rw [h1] at h
   cases h2 : f n with
   | none => simp [h2] at h
   | some x =>
    simp [h2] at h
    obtain ⟨a, b⟩ := ih h1
    subst h
    refine ⟨by simp [a], fun i hi => ?_⟩
    by_cases e : i = n
    ·subst e; rw [h2, List.getElem?_append_right (by omega)]; simp [a]
    ·rw [List.getElem?_append_left (by omega)]; exact b i (by omega)
theorem cells_vals {w : World} {a : Addr} {n : Nat} {cs : List Value} (h : w.cells? 0 a n = some cs) : cs.length = n ∧ ∀ j, j < n → w.cell? (a.add j) = cs[j]? := by
 unfold World.cells? at h
 simp only [Nat.zero_le, if_true] at h
 exact mapM_range h
theorem lists_of {α : Type} {n : Nat} {p : Nat → α → Prop} (h : ∀ i, i < n → ∃ a, p i a) : ∃ l : List α, l.length = n ∧ ∀ i a, l[i]? = some a → p i a := by
 induction n with
 | zero => exact ⟨[], rfl, fun i a x => by simp at x⟩
 | succ n ih =>
  obtain ⟨l, h1, h2⟩ := ih fun i hi => h i (by omega)
  obtain ⟨x, hx⟩ := h n (by omega)
  refine ⟨l ++ [x], by simp [h1], fun i a y => ?_⟩
  by_cases e : i < n
  ·rw [List.getElem?_append_left (by omega)] at y; exact h2 i a y
  ·rw [List.getElem?_append_right (by omega)] at y
   have : i - l.length = 0 := by
    rcases Nat.eq_zero_or_pos (i - l.length) with z | z
    ·exact z
    ·rw [List.getElem?_eq_none (by simp; omega)] at y; cases y
   rw [this] at y
   simp at y
   subst y
   have : i = n := by omega
   subst this
   exact hx
theorem wf_int {k : IntKind} {n : Int} (h : (Lit.int k n).wf = true) : k.min ≤ n ∧ n ≤ k.max := by
 simpa [Lit.wf] using h
variable {H : Type} {enc : TypeId × Value → H} {w : World}
theorem contig_le : ∀ (fs : List (Nat × Nat)) (off N : Nat), contig ti off fs = some N → off ≤ N := by
 intro fs
 induction fs with
 | nil => intro off N h; simp [contig] at h; omega
 | cons f fs ih =>
  intro off N h
  unfold contig at h
  split at h
  ·split at h
   ·have := ih _ _ h; omega
   ·cases h
  ·cases h
theorem join_parts {σ : Sg} {q : Nat → List AV → Prop} {cs : List Value} : ∀ (fs : List (Nat × Nat)) (off N : Nat), contig ti off fs = some N → cs.length = N →
  (∀ f ∈ fs, ∀ d, ti f.2 = some d → ∃ as, CRels σ as ((cs.drop f.1).take d.size) ∧ q f.2 as) →
  ∃ as, CRels σ as (cs.drop off) ∧ ∀ f ∈ fs, off ≤ f.1 ∧ ∃ d, ti f.2 = some d ∧ q f.2 ((as.drop (f.1 - off)).take d.size) := by
 intro fs
 induction fs with
 | nil =>
  intro off N h hl _
  simp [contig] at h
  refine ⟨[], ⟨⟨by simp; omega, fun i a v x => by simp at x⟩, fun v hv => ?_⟩, fun f hf => by cases hf⟩
  rw [List.drop_eq_nil_of_le (by omega)] at hv
  cases hv
 | cons f fs ih =>
  intro off N h hl hq
  unfold contig at h
  split at h
  ·rename_i d hd
   split at h
   ·rename_i e
    subst e
    obtain ⟨as1, c1, q1⟩ := hq f (by simp) d hd
    obtain ⟨as2, c2, q2⟩ := ih _ _ h hl fun g hg => hq g (by simp [hg])
    have hN := contig_le _ _ _ h
    have l1 : as1.length = d.size := by have := c1.1.1; simp at this; omega
    have e : cs.drop f.1 = (cs.drop f.1).take d.size ++ cs.drop (f.1 + d.size) := by
     rw [← List.drop_drop, List.take_append_drop]
    refine ⟨as1 ++ as2, ?_, fun g hg => ?_⟩
    ·rw [e]
     exact ⟨c1.1.append c2.1, fun v hv => (List.mem_append.1 hv).elim (c1.2 v) (c2.2 v)⟩
    ·rcases List.mem_cons.1 hg with rfl | hg
     ·refine ⟨Nat.le_refl _, d, hd, ?_⟩
      rw [Nat.sub_self, List.drop_zero, List.take_append_of_le_length (by omega), List.take_of_length_le (by omega)]
      exact q1
     ·obtain ⟨h1, d', h2, h3⟩ := q2 g hg
      refine ⟨by omega, d', h2, ?_⟩
      rw [show g.1 - f.1 = as1.length + (g.1 - (f.1 + d.size)) by omega, List.drop_append, List.drop_eq_nil_of_le (by omega), List.nil_append, Nat.add_sub_cancel_left]
      exact h3
   ·cases h
  ·cases h
theorem one_cell {σ : Sg} {a : AV} {v : Value} (h : VRel σ a v) (o : v.oneCell' = true) : CRels σ [a] [v] := ⟨VRels.cons h .nil, by simpa using o⟩
theorem bridge (tok : TOk P ti) : ∀ (m n t : Nat) (cs : List Value) (x : DataW H × List MemPlace), goodT ti m t = true → DataW.trod enc P w 0 (fun _ => true) true n t cs = some x →
  ∃ as, CRels (frozenS w) as cs ∧ Shp ti m t as := by
 intro m
 induction m with
 | zero => intro n t cs x h; cases h
 | succ m ih =>
  intro n t cs x hg hx
  unfold goodT at hg
  split at hg
  case h_2 => cases hg
  rename_i d hd
  have hok := tok _ _ hd
  have hsz := hok.cells
  have shp : ∀ {as : List AV}, Shp ti (m + 1) t as = (match d.kind with
   | .int k => ∃ i, as = [.int k i] ∧ k.min ≤ i ∧ i ≤ k.max
   | .bool => ∃ b, as = [.bool b]
   | .str => ∃ s : ByteArray, as = [.str s] ∧ s.size ≤ maxLen
   | .slice e => ∃ de rows, ti e = some de ∧ as = [.lslc de.size rows 0 rows.length false] ∧ rows.length ≤ maxLen ∧ ∀ r ∈ rows, Shp ti m e r
   | .struct fs => as.length = d.size ∧ ∀ f ∈ fs, ∃ df, ti f.2 = some df ∧ Shp ti m f.2 ((as.drop f.1).take df.size)
   | .arr k e => as.length = d.size ∧ ∃ de, ti e = some de ∧ ∀ i, i < k → Shp ti m e ((as.drop (i * de.size)).take de.size)
   | _ => False) := by intro as; rw [Shp, hd]
  simp only [shp]
  split at hg
  ·rename_i k hk
   obtain ⟨i, rfl, _, hw⟩ := DataW.trod_int (hok.int hk) hx
   exact ⟨_, one_cell .int rfl, i, rfl, wf_int hw⟩
  ·rename_i hk
   obtain ⟨b, rfl, _⟩ := DataW.trod_bool (hok.bool hk) hx
   exact ⟨_, one_cell .bool rfl, b, rfl⟩
  ·rename_i hk
   obtain ⟨s, rfl, _, hs⟩ := DataW.trod_string (hok.str hk) hx
   exact ⟨_, one_cell .str rfl, s, rfl, hs⟩
  ·rename_i e hk
   simp only [Bool.and_eq_true] at hg
   obtain ⟨g1, g2⟩ := hg
   split at g1
   case h_2 => cases g1
   rename_i de hde
   have hz : de.size ≠ 0 := by simpa using g1
   have hesz := (tok _ _ hde).cells
   rcases DataW.trod_slice (hok.slice hk) hx with ⟨rfl, _⟩ | ⟨a, len, cap, elems, rest, n', rfl, rfl, _, _, hl, hm, hlen, hel, hsp, _⟩
   ·exact ⟨_, one_cell .lnil rfl, de, [], hde, rfl, by simp, fun r hr => by cases hr⟩
   ·
    have each : ∀ i, i < len → ∃ row : List AV, (∃ cs', w.cells? 0 (a.add (i * de.size)) de.size = some cs' ∧ CRels (frozenS w) row cs') ∧ Shp ti m e row := by
     intro i hi
     have h1 := hel i hi
     rw [hesz] at h1
     have h2 : ∃ y, elems[i]? = some y := ⟨_, List.getElem?_eq_getElem (by omega)⟩
     obtain ⟨y, hy⟩ := h2
     rw [hy] at h1
     cases hc : w.cells? 0 (a.add (i * de.size)) de.size with
     | none => rw [hc] at h1; cases h1
     | some cs' =>
      rw [hc] at h1
      obtain ⟨row, c1, s1⟩ := ih n' e cs' y g2 h1
      exact ⟨row, ⟨cs', rfl, c1⟩, s1⟩
    obtain ⟨rows, r1, r2⟩ := lists_of each
    refine ⟨[.lslc de.size rows 0 rows.length false], one_cell ?_ rfl, de, rows, hde, rfl, by omega, fun r hr => ?_⟩
    ·rw [r1]
     by_cases h0 : cap = 0
     ·obtain rfl : len = 0 := by omega
      subst h0
      exact .lz
     have hspot : a.spot = none := by
      have add0 : ∀ b : Addr, b.add 0 = b := fun b => by simp [Addr.add]
      have hcell : ∃ cs', w.cells? 0 a de.size = some cs' := by
       by_cases hl0 : len = 0
       ·obtain ⟨s1, s2⟩ := hsp rfl
        have s3 := s2 0 (by omega)
        rw [hesz, hl0, Nat.zero_add, Nat.zero_mul, add0, List.getElem?_eq_getElem (by omega)] at s3
        cases hc : w.cells? 0 a de.size with
        | none => rw [hc] at s3; cases s3
        | some cs' => exact ⟨cs', rfl⟩
       ·obtain ⟨row, ⟨cs', hc, _⟩, _⟩ := each 0 (by omega)
        rw [Nat.zero_mul, add0] at hc
        exact ⟨cs', hc⟩
      obtain ⟨cs', hc⟩ := hcell
      obtain ⟨c1, c2⟩ := cells_vals hc
      have := c2 0 (by omega)
      have h3 : ∃ v, cs'[0]? = some v := ⟨_, List.getElem?_eq_getElem (by omega)⟩
      obtain ⟨v, hv⟩ := h3
      rw [hv, add0] at this
      exact World.cell?_spot this
     obtain ⟨blk, st, spot⟩ := a
     simp only at hspot
     subst hspot
     have cellOf : ∀ (i j : Nat) (c : AV), cellAt rows i j = some c → ∃ v, w.cell? ⟨blk, st + i * de.size + j, none⟩ = some v ∧ v.oneCell' = true ∧ VRel (frozenS w) c v := by
      intro i j c hc
      unfold cellAt at hc
      cases hr : rows[i]? with
      | none => rw [hr] at hc; cases hc
      | some row =>
       rw [hr] at hc
       obtain ⟨⟨cs', k1, k2⟩, _⟩ := r2 i row hr
       obtain ⟨c1, c2⟩ := cells_vals k1
       have hj := (List.getElem?_eq_some_iff.1 (show row[j]? = some c from hc)).1
       have hlr := k2.1.1
       have h3 : ∃ v, cs'[j]? = some v := ⟨_, List.getElem?_eq_getElem (by omega)⟩
       obtain ⟨v, hv⟩ := h3
       have hcell := c2 j (by omega)
       rw [hv, add_mk, add_mk] at hcell
       exact ⟨v, hcell, k2.2 v (List.mem_of_getElem? hv), k2.1.2 j c v hc hv⟩
     have e0 : (⟨blk, st, none⟩ : Addr) = ⟨blk, st + 0 * de.size, none⟩ := by simp
     rw [e0]
     refine .lslc (fun i j => (w.cell? ⟨blk, st + i * de.size + j, none⟩).getD undef) (fun i row hr => ?_) (fun i j c hc => ?_) (fun i j c hc => ?_) (fun i j c hc => ?_) (by omega) (fun x => by cases x) hl
     ·obtain ⟨⟨cs', k1, k2⟩, _⟩ := r2 i row hr
      rw [k2.1.1]
      exact (cells_vals k1).1
     ·obtain ⟨v, h1, h2, h3⟩ := cellOf i j c hc
      obtain ⟨cc, f1, f2⟩ := frozen_cell h1
      exact ⟨cc, f1, by rw [f2, h1]; rfl⟩
     ·obtain ⟨v, h1, h2, h3⟩ := cellOf i j c hc
      simp [h1, h2]
     ·obtain ⟨v, h1, h2, h3⟩ := cellOf i j c hc
      rw [frozenS_pure, h1]
      exact h3
    ·obtain ⟨i, hi⟩ := List.getElem?_of_mem hr
     exact (r2 i r hi).2
  ·rename_i fs hk
   simp only [Bool.and_eq_true, beq_iff_eq, List.all_eq_true] at hg
   obtain ⟨g1, g2⟩ := hg
   obtain ⟨fa, hu, hfs⟩ := hok.struct hk
   obtain ⟨xs, n', rfl, _, hl, hlen, hf⟩ := DataW.trod_struct hu hx
   rw [hsz] at hl
   obtain ⟨as, c1, q1⟩ := join_parts (σ := frozenS w) (q := fun t as => Shp ti m t as) fs 0 d.size g1 hl fun f hff df hdf => by
    have hmem := hff
    rw [← hfs] at hmem
    obtain ⟨fld, hm1, rfl⟩ := List.mem_map.1 hmem
    obtain ⟨i, hi⟩ := List.getElem?_of_mem hm1
    have h1 := hf i fld (by simpa using hi)
    have hilt : i < xs.length := by have := (List.getElem?_eq_some_iff.1 hi).1; simp at this; omega
    rw [List.getElem?_eq_getElem hilt, (tok _ _ hdf).cells] at h1
    obtain ⟨as, c, s⟩ := ih n' fld.type _ _ (g2 _ hff) h1
    exact ⟨as, c, s⟩
   refine ⟨as, by simpa using c1, by have := c1.1.1; simp at this; omega, fun f hf => ?_⟩
   obtain ⟨_, df, h2, h3⟩ := q1 f hf
   exact ⟨df, h2, by simpa using h3⟩
  ·rename_i k e hk
   simp only [Bool.and_eq_true] at hg
   obtain ⟨g1, g2⟩ := hg
   split at g1
   case h_2 => cases g1
   rename_i de hde
   simp only [beq_iff_eq] at g1
   have hesz := (tok _ _ hde).cells
   obtain ⟨xs, n', rfl, _, hl, hlen, hf⟩ := DataW.trod_array (hok.arr hk) hx
   rw [hsz] at hl
   obtain ⟨as, c1, q1⟩ := join_parts (σ := frozenS w) (q := fun t as => Shp ti m t as) _ 0 d.size g1 hl fun f hff df hdf => by
    obtain ⟨i, hi, rfl⟩ := List.mem_map.1 hff
    simp only [List.mem_range] at hi
    simp only at hdf ⊢
    rw [hde] at hdf
    cases hdf
    have h1 := hf i hi
    rw [List.getElem?_eq_getElem (by omega), hesz] at h1
    obtain ⟨as, c, s⟩ := ih n' e _ _ g2 h1
    exact ⟨as, c, s⟩
   refine ⟨as, by simpa using c1, by have := c1.1.1; simp at this; omega, de, hde, fun i hi => ?_⟩
   obtain ⟨_, df, h2, h3⟩ := q1 (i * de.size, e) (List.mem_map.2 ⟨i, by simpa using hi, rfl⟩)
   simp only at h2 h3
   rw [hde] at h2
   cases h2
   simpa using h3
  ·cases hg
def ShpV (ti : TI) (m t : Nat) (a : AV) : Prop := match ti t with
 | some d => if d.isAgg then ∃ as, a = .agg as ∧ Shp ti m t as else Shp ti m t [a]
 | none => False
theorem bridgeV (tok : TOk P ti) {m t : Nat} {v : Value} {dt : DataW H} {ps : List MemPlace} {r : Reach} {b0 : Nat} (hg : goodT ti m t = true) (hv : Value.okWide P w r b0 t v) (h : DataW.Trod enc P w 0 (fun _ => true) true t v dt ps) :
  ∃ a, VRel (frozenS w) a v ∧ ShpV ti m t a := by
 obtain ⟨n, hn⟩ := h
 obtain ⟨as, c, s⟩ := bridge tok m n t _ _ hg hn
 cases m with
 | zero => cases hg
 | succ m =>
 have hs := s
 unfold Shp at hs
 unfold ShpV
 split at hs
 case h_2 => exact hs.elim
 rename_i d hd
 have hok := tok _ _ hd
 unfold Value.okWide at hv
 have one : d.isAgg = false → (∀ cs, v ≠ .agg cs) → as.length = 1 → ∃ a, VRel (frozenS w) a v ∧ if d.isAgg = true then ∃ as, a = .agg as ∧ Shp ti (m + 1) t as else Shp ti (m + 1) t [a] := by
  intro h1 h2 h3
  match as, h3 with
  | [a], _ =>
   have hc : v.cells.toList = [v] := by cases v <;> first | rfl | exact absurd rfl (h2 _)
   rw [hc] at c
   exact ⟨a, c.1.2 0 a v rfl rfl, by rw [h1]; exact s⟩
 have two : d.isAgg = true → (∃ cs, v = .agg cs ∧ cs.size = P.cellsOf t ∧ Row.okWide P w r b0 t cs) → ∃ a, VRel (frozenS w) a v ∧ if d.isAgg = true then ∃ as, a = .agg as ∧ Shp ti (m + 1) t as else Shp ti (m + 1) t [a] := by
  intro h1 ⟨cs, e, _⟩
  subst e
  refine ⟨.agg as, .agg (by have := c.1.1; simpa [Value.cells] using this) (fun v hv => c.2 v (by simpa [Value.cells] using hv)) (fun i a v x y => c.1.2 i a v x (by simpa [Value.cells] using y)), ?_⟩
  rw [h1]
  exact ⟨as, rfl, s⟩
 have nag : ∀ {T : TypeDesc}, P.underlying t = some T → Cell.okWide P w r b0 t v → (T = .bool ∨ (∃ k, T = .int k) ∨ T = .string ∨ ∃ e, T = .slice e) → ∀ cs, v ≠ .agg cs := by
  rintro T hT hc hor cs rfl
  rcases hor with rfl | ⟨k, rfl⟩ | rfl | ⟨e, rfl⟩ <;> simp [Cell.okWide, hT, Cell.ok] at hc
 split at hs
 ·rename_i k hk
  rw [hok.int hk] at hv
  obtain ⟨i, rfl, _⟩ := hs
  exact one (by simp [TD.isAgg, hk]) (nag (hok.int hk) hv (.inr (.inl ⟨_, rfl⟩))) rfl
 ·rename_i hk
  rw [hok.bool hk] at hv
  obtain ⟨i, rfl⟩ := hs
  exact one (by simp [TD.isAgg, hk]) (nag (hok.bool hk) hv (.inl rfl)) rfl
 ·rename_i hk
  rw [hok.str hk] at hv
  obtain ⟨i, rfl, _⟩ := hs
  exact one (by simp [TD.isAgg, hk]) (nag (hok.str hk) hv (.inr (.inr (.inl rfl)))) rfl
 ·rename_i e hk
  rw [hok.slice hk] at hv
  obtain ⟨de, rows, _, rfl, _⟩ := hs
  exact one (by simp [TD.isAgg, hk]) (nag (hok.slice hk) hv (.inr (.inr (.inr ⟨_, rfl⟩)))) rfl
 ·rename_i fs hk
  obtain ⟨fa, hu, hfs⟩ := hok.struct hk
  rw [hu] at hv
  exact two (by simp [TD.isAgg, hk]) hv
 ·rename_i k e hk
  rw [hok.arr hk] at hv
  exact two (by simp [TD.isAgg, hk]) hv
 ·exact hs.elim
theorem mv_below {σ' : Sg} {h' : Heap} {w w' : World} (m : Mv (frozenS w) Heap.nil w σ' h' w') : Below w.heap.size w w' :=
 ⟨m.os, m.tape, m.output, m.size, fun k hk => m.block k hk fun ⟨i, o, ho, _⟩ => Heap.nil_some ho⟩
theorem law_calls {f : FuncId} {args : List AV} {vs : Array Value} (h : ACalls P f args Heap.nil fun r _ => r = .bool true) (hv : VRels (frozenS w) args vs.toList) :
  Calls P f vs w fun e w' => e = .returned (.bool true) ∧ Below w.heap.size w w' := by
 refine (h.use (frozenS w) w vs (frozenS_sim w) hv).mono ?_
 rintro e w' ⟨v, rfl, σ', h', r, rfl, m, x⟩
 cases x
 exact ⟨rfl, mv_below m⟩
end
end Go.Ab

namespace Go.Ab
theorem hret_of {C : Ctx} (ok : COk C) (hm : C.P.follows .mixedOrders = true) {A : Ann} {f : FuncId} {fn : Func} {c : Code} (n : Nat) (hf : C.P.funcs[f]? = some fn) (hb : fn.body = some c) {args : List AV} {R : Nat → (Nat → Nat) → AV} {H : Nat → (Nat → Nat) → List AObj}
  (hk : forceR (frame0 args fn.ntmps) fun fr => forceHR (heap0 Heap.nil n) fun h => aexR C A c fr h fun e fr h' => match e with
   | .normal => resR C.ti fn.results.toList fr h' fun vs => retV vs fun v => movK h' v fun r' h'' => ∃ eps, r' = R 0 eps ∧ h''.dy = H 0 eps
   | .ret => resR C.ti fn.results.toList fr h' fun vs => retV vs fun v => movK h' v fun r' h'' => ∃ eps, r' = R 0 eps ∧ h''.dy = H 0 eps
   | .exit _ => False)
  (hsh : ∀ B E eps, ∃ eps', (R 0 eps).sh B E = R B eps' ∧ (H 0 eps).map (AObj.sh B E) = H B eps') (hy : C.yl = none := by rfl) : HRet C.P f args R H := by
 refine ⟨⟨fun σ w vs s hv => ?_⟩, hsh⟩
 refine ((fn_of ok hm n hf hb hk hy).use σ w vs s hv).mono ?_
 rintro e w' ⟨v, rfl, σ1, h1, r, k, m, x⟩
 obtain ⟨σ2, h2, r2, m2, x2, k2⟩ := movK_sound m.sim x k
 exact ⟨v, rfl, σ2, h2, r2, k2, m.trans m2, x2⟩
theorem pretD_of {C : Ctx} (ok : COk C) (hm : C.P.follows .mixedOrders = true) {A : Ann} {f : FuncId} {fn : Func} {c : Code} (n : Nat) (hf : C.P.funcs[f]? = some fn) (hb : fn.body = some c) {args : List AV} {r : AV}
  (hk : forceR (frame0 args fn.ntmps) fun fr => forceHR (heap0 Heap.nil n) fun h => aexR C A c fr h fun e fr h' => match e with
   | .normal => resR C.ti fn.results.toList fr h' fun vs => retV vs fun v => frzD h' v fun v h' => frzK h' v fun r' _ => r'.isPure2 = true ∧ r' = r
   | .ret => resR C.ti fn.results.toList fr h' fun vs => retV vs fun v => frzD h' v fun v h' => frzK h' v fun r' _ => r'.isPure2 = true ∧ r' = r
   | .exit _ => False) (hy : C.yl = none := by rfl) : PRet C.P f args r := by
 refine ⟨⟨⟨fun σ w vs s hv => ?_⟩⟩⟩
 refine ((fn_of ok hm n hf hb hk hy).use σ w vs s hv).mono ?_
 rintro e w' ⟨v, rfl, σ1, h1, r1, k, m, x⟩
 obtain ⟨σ2, h2, r2, m2, x2, k2⟩ := frzD_sound m.sim x k
 exact ⟨v, rfl, σ2, h2, r2, k2, m.trans m2, x2⟩
theorem HRet.pret {P : Program} {f : FuncId} {args : List AV} {R : Nat → (Nat → Nat) → AV} {H : Nat → (Nat → Nat) → List AObj} (hc : HRet P f args R H) {r : AV}
  (h1 : ∀ eps, ∀ o ∈ H 0 eps, pureObj o) (h2 : ∀ eps, fzV (H 0 eps) (R 0 eps) = r) (h3 : r.isPure2 = true) (h4 : ∀ h, frzK h r fun r' _ => r' = r) : PRet P f args r := by
 refine ⟨⟨⟨fun σ w vs s hv => ?_⟩⟩⟩
 refine (hc.out.use σ w vs s hv).mono ?_
 rintro e w' ⟨v, rfl, σ1, hh, r1, ⟨eps, rfl, e2⟩, m, x⟩
 obtain ⟨σ2, h2', r2, m2, x2, k2⟩ := frzD_sound m.sim x (K := fun a _ => a = r) ⟨by rw [e2]; exact h1 eps, by rw [e2]; exact h2 eps⟩
 subst k2
 exact ⟨v, rfl, σ2, h2', r2, frzK_mono (fun a _ e => ⟨by rw [e]; exact h3, e⟩) (h4 h2'), m.trans m2, x2⟩
end Go.Ab

namespace Go.Ab
def padTo (n : Nat) (l : List AObj) : List AObj := (l ++ List.replicate n AObj.hole).take n
theorem padTo_len (n : Nat) (l : List AObj) : (padTo n l).length = n := by simp [padTo]
theorem padTo_get {n : Nat} {l : List AObj} {k : Nat} {o : AObj} (h : (padTo n l)[k]? = some o) : o = .hole ∨ l[k]? = some o := by
 unfold padTo at h
 rw [List.getElem?_take] at h
 split at h
 ·rw [List.getElem?_append] at h
  split at h
  ·exact .inr h
  ·rw [List.getElem?_replicate] at h
   split at h
   ·exact .inl (Option.some.inj h).symm
   ·cases h
 ·cases h
theorem ACalls.frame {P : Program} {f : FuncId} {args : List AV} {st1 st2 dy : List AObj} {K : AV → Heap → Prop} (hc : ACalls P f args ⟨st1, dy⟩ K) :
  ACalls P f args ⟨st1 ++ st2, dy⟩ fun r h' => ∃ h1, K r h1 ∧ h' = ⟨padTo st1.length h1.st ++ st2, h1.dy⟩ := by
 refine ⟨fun σ w vs s hv => ?_⟩
 have part : ∀ (i : Id) (o : AObj), (⟨st1, dy⟩ : Heap)[i]? = some o → (⟨st1 ++ st2, dy⟩ : Heap)[i]? = some o := by
  intro i o ho
  cases i with
  | d n => exact ho
  | s n =>
   have ho : st1[n]? = some o := ho
   show (st1 ++ st2)[n]? = some o
   rw [List.getElem?_append_left (List.getElem?_eq_some_iff.1 ho).1]; exact ho
 have m0 : Mv σ ⟨st1 ++ st2, dy⟩ w σ ⟨st1, dy⟩ w := s.forget fun i o ho => .inr (part i o ho)
 refine (hc.use σ w vs m0.sim hv).mono ?_
 rintro e w' ⟨v, rfl, σ1, h1, r, hk, m, x⟩
 -- the rest
 have rest : ∀ (k : Nat) (o : AObj), st2[k]? = some o → (⟨st1 ++ st2, dy⟩ : Heap)[Id.s (st1.length + k)]? = some o := fun k o ho => by
  show (st1 ++ st2)[st1.length + k]? = some o
  rw [List.getElem?_append_right (by omega), Nat.add_sub_cancel_left]; exact ho
 have nlive : ∀ (k : Nat) (o : AObj) (b : Nat), st2[k]? = some o → o.blk σ (.s (st1.length + k)) = some b → ¬ Live σ ⟨st1, dy⟩ b := by
  rintro k o b ho hb ⟨i, x, hx, hbx⟩
  have := s.apart i _ x o b (part i x hx) (rest k o ho) hbx hb
  subst this
  have hx : st1[st1.length + k]? = some x := hx
  rw [List.getElem?_eq_none (by omega)] at hx
  cases hx
 have lt : ∀ (k : Nat) (o : AObj) (b : Nat), st2[k]? = some o → o.blk σ (.s (st1.length + k)) = some b → b < w.heap.size := fun k o b ho hb => Live.lt s ⟨_, o, rest k o ho, hb⟩
 have nfm : ∀ (k : Nat) (o : AObj) (b : Nat), st2[k]? = some o → o.blk σ (.s (st1.length + k)) = some b → σ1.FM b = none := fun k o b ho hb => by
  cases hf : σ1.FM b with
  | none => rfl
  | some cs =>
   rcases m.new b (by rw [hf]; simp) with x | x | x
   ·exact absurd (Live.noFM s ⟨_, o, rest k o ho, hb⟩) x
   ·exact absurd x (nlive k o b ho hb)
   ·have := lt k o b ho hb; omega
 have obj : ∀ (i : Id) (o : AObj), (⟨padTo st1.length h1.st ++ st2, h1.dy⟩ : Heap)[i]? = some o → o = .hole ∨ h1[i]? = some o ∨ ∃ k, i = .s (st1.length + k) ∧ st2[k]? = some o := by
  intro i o ho
  cases i with
  | d n => exact .inr (.inl ho)
  | s n =>
   have ho : (padTo st1.length h1.st ++ st2)[n]? = some o := ho
   by_cases hn : n < st1.length
   ·rw [List.getElem?_append_left (by rw [padTo_len]; exact hn)] at ho
    exact (padTo_get ho).imp (fun x => x) (fun x => .inl x)
   ·rw [List.getElem?_append_right (by rw [padTo_len]; omega), padTo_len] at ho
    exact .inr (.inr ⟨n - st1.length, by rw [show st1.length + (n - st1.length) = n by omega], ho⟩)
 have bk : ∀ (k : Nat) (o : AObj), st2[k]? = some o → o.blk σ1 (.s (st1.length + k)) = o.blk σ (.s (st1.length + k)) := fun k o ho => blk_le (s.obj _ o (rest k o ho)) m.le
 have lv1 : ∀ b, Live σ1 h1 b → Live σ ⟨st1, dy⟩ b ∨ w.heap.size ≤ b := m.live
 refine ⟨v, rfl, σ1, _, r, ⟨h1, hk, rfl⟩, ⟨m.le, ⟨m.sim.fm, fun i o ho => ?_, fun i j oi oj b hi hj bi bj => ?_, m.sim.fresh, m.sim.rm⟩, m.os, m.tape, m.output, m.size, fun b hb hnl => ?_, fun b hb => ?_, fun b hb => ?_⟩, x⟩
 ·rcases obj i o ho with rfl | h2 | ⟨k, rfl, h2⟩
  ·trivial
  ·exact m.sim.obj i o h2
  ·exact (s.obj _ o (rest k o h2)).keep m.le fun b hb => ⟨m.block b (lt k o b h2 hb) (nlive k o b h2 hb), nfm k o b h2 hb⟩
 ·have cross : ∀ (i : Id) (o : AObj) (k : Nat) (o2 : AObj), h1[i]? = some o → o.blk σ1 i = some b → st2[k]? = some o2 → o2.blk σ1 (.s (st1.length + k)) = some b → False := by
   intro i o k o2 h2 b2 h3 b3
   rw [bk k o2 h3] at b3
   rcases lv1 b ⟨i, o, h2, b2⟩ with y | y
   ·exact nlive k o2 b h3 b3 y
   ·have := lt k o2 b h3 b3; omega
  rcases obj i oi hi with rfl | h2 | ⟨k, rfl, h2⟩
  ·simp [AObj.blk] at bi
  ·rcases obj j oj hj with rfl | h3 | ⟨k', rfl, h3⟩
   ·simp [AObj.blk] at bj
   ·exact m.sim.apart i j oi oj b h2 h3 bi bj
   ·exact (cross i oi k' oj h2 bi h3 bj).elim
  ·rcases obj j oj hj with rfl | h3 | ⟨k', rfl, h3⟩
   ·simp [AObj.blk] at bj
   ·exact (cross j oj k oi h3 bj h2 bi).elim
   ·rw [bk k oi h2] at bi
    rw [bk k' oj h3] at bj
    exact s.apart _ _ oi oj b (rest k oi h2) (rest k' oj h3) bi bj
 ·exact m.block b hb fun ⟨i, o, ho, hbx⟩ => hnl ⟨i, o, part i o ho, hbx⟩
 ·obtain ⟨i, o, ho, hbx⟩ := hb
  rcases obj i o ho with rfl | h2 | ⟨k, rfl, h2⟩
  ·simp [AObj.blk] at hbx
  ·rcases lv1 b ⟨i, o, h2, hbx⟩ with ⟨i', o', h3, h4⟩ | y
   ·exact .inl ⟨i', o', part i' o' h3, h4⟩
   ·exact .inr y
  ·rw [bk k o h2] at hbx
   exact .inl ⟨_, o, rest k o h2, hbx⟩
 ·rcases m.new b hb with y | ⟨i, o, h3, h4⟩ | y
  ·exact .inl y
  ·exact .inr (.inl ⟨i, o, part i o h3, h4⟩)
  ·exact .inr (.inr y)
theorem ACalls.part {P : Program} {f : FuncId} {args : List AV} {h : Heap} {st1 dy : List AObj} {K0 K : AV → Heap → Prop} (n : Nat) (hn : st1.length = n) (e1 : h.st.take n = st1) (e2 : h.dy = dy) (hc : ACalls P f args ⟨st1, dy⟩ K0)
  (hK : ∀ r h1, K0 r h1 → K r ⟨padTo n h1.st ++ h.st.drop n, h1.dy⟩) : ACalls P f args h K := by
 subst hn
 have e : h = ⟨st1 ++ h.st.drop st1.length, dy⟩ := by
  obtain ⟨st, dy'⟩ := h
  simp only at e1 e2 ⊢
  subst e2
  have : st = st.take st1.length ++ st.drop st1.length := (List.take_append_drop _ _).symm
  rw [e1] at this
  rw [← this]
 have hf := hc.frame (st2 := h.st.drop st1.length)
 rw [← e] at hf
 exact hf.mono fun r h' ⟨h1, k, e'⟩ => by subst e'; exact hK r h1 k
theorem ACalls.liftV {P : Program} {f : FuncId} {args : List AV} {h : Heap} {K : AV → Heap → Prop} (b j e sz : Nat) (hne : b ≠ j) (hb : h[Id.s b]? = some (.vec e [[.nils]]))
  (hc : ∀ ep, ACalls P f args ((h.set (.s j) (.vec ep [])).set (.s b) (.vec e [[.oslc (.s j) ep sz 0 0 false]])) K) : ACalls P f args h K := by
 refine ⟨fun σ w vs s hv => ?_⟩
 obtain ⟨ep, σ1, m1, hp⟩ := s.allocNil (.s j)
 have hb1 : (h.set (.s j) (.vec ep []))[Id.s b]? = some (.vec e [[.nils]]) := by
  rw [Heap.getElem?_set_ne (fun x => hne (Id.s.inj x).symm)]; exact hb
 have m2 : Mv σ1 (h.set (.s j) (.vec ep [])) w σ1 ((h.set (.s j) (.vec ep [])).set (.s b) (.vec e [[.oslc (.s j) ep sz 0 0 false]])) w := by
  rcases m1.sim.obj _ _ hb1 with ⟨x, _⟩ | ⟨blk, st, sz1, n, size, cs, T, h1, h2, h3, h4, h5, h6, h7, h8⟩
  ·cases x
  ·refine m1.sim.write (blk := blk) hb1 (by simp [AObj.blk, h1]) (by simp [AObj.blk, h1]) (fun _ _ => rfl) rfl (.refl w) (.inr ⟨blk, st, sz1, n, size, cs, T, h1, h2, h3, h4, h5, h6, fun i row hr => ?_, fun i k c hc => ?_⟩)
   ·cases i with
    | zero => simp at hr; subst hr; have h9 := h7 0 [.nils] rfl; simpa using h9
    | succ i => simp at hr
   ·obtain ⟨rfl, hk⟩ := cellAt_one hc
    cases k with
    | succ k => simp at hk
    | zero =>
     simp at hk
     subst hk
     obtain ⟨v, a1, a2, a3⟩ := h8 0 0 .nils rfl
     cases a3
     exact ⟨_, a1, a2, .onil hp⟩
 refine ((hc ep).use σ1 w vs m2.sim (hv.mono m1.le)).mono ?_
 rintro e w' ⟨v, rfl, σ2, h2, r, hk, m, x⟩
 exact ⟨v, rfl, σ2, h2, r, hk, (m1.trans m2).trans m, x⟩
end Go.Ab

namespace Go.Ab
structure Sub (a b : AV) : Prop where
 use : ∀ (σ : Sg) (v : Value), VRel σ a v → VRel σ b v
theorem Sub.refl (a : AV) : Sub a a := ⟨fun _ _ h => h⟩
theorem Sub.nils {sz : Nat} {rows : List (List AV)} {off : Nat} {lim : Bool} : Sub .nils (.lslc sz rows off 0 lim) := ⟨fun σ v h => by cases h; exact .lnil⟩
inductive SubL : List AV → List AV → Prop
 | nil : SubL [] []
 | cons {a b : AV} {l m : List AV} : Sub a b → SubL l m → SubL (a :: l) (b :: m)
inductive SubR : List (List AV) → List (List AV) → Prop
 | nil : SubR [] []
 | cons {a b : List AV} {l m : List (List AV)} : SubL a b → SubR l m → SubR (a :: l) (b :: m)
theorem SubL.get {l m : List AV} (h : SubL l m) : l.length = m.length ∧ ∀ (i : Nat) (b : AV), m[i]? = some b → ∃ a, l[i]? = some a ∧ Sub a b := by
 induction h with
 | nil => exact ⟨rfl, fun i b x => by simp at x⟩
 | cons s _ ih =>
  refine ⟨by simp [ih.1], fun i b x => ?_⟩
  cases i with
  | zero => simp at x; subst x; exact ⟨_, rfl, s⟩
  | succ i => simp at x; simpa using ih.2 i b x
theorem SubR.get {l m : List (List AV)} (h : SubR l m) : l.length = m.length ∧ ∀ (i : Nat) (b : List AV), m[i]? = some b → ∃ a, l[i]? = some a ∧ SubL a b := by
 induction h with
 | nil => exact ⟨rfl, fun i b x => by simp at x⟩
 | cons s _ ih =>
  refine ⟨by simp [ih.1], fun i b x => ?_⟩
  cases i with
  | zero => simp at x; subst x; exact ⟨_, rfl, s⟩
  | succ i => simp at x; simpa using ih.2 i b x
theorem SubL.refl : ∀ l : List AV, SubL l l
 | [] => .nil
 | a :: l => .cons (Sub.refl a) (SubL.refl l)
theorem SubR.refl : ∀ l : List (List AV), SubR l l
 | [] => .nil
 | a :: l => .cons (SubL.refl a) (SubR.refl l)
theorem SubR.cell {l m : List (List AV)} (h : SubR l m) {i j : Nat} {c : AV} (x : cellAt m i j = some c) : ∃ a, cellAt l i j = some a ∧ Sub a c := by
 obtain ⟨row, hr, hj⟩ := cellAt_get x
 obtain ⟨row', hr', s⟩ := h.get.2 i row hr
 obtain ⟨a, ha, s'⟩ := s.get.2 j c hj
 exact ⟨a, by simp [cellAt, hr', ha], s'⟩
theorem Sub.agg {l m : List AV} (h : SubL l m) : Sub (.agg l) (.agg m) := ⟨fun σ v hv => by
 cases hv with
 | @agg _ _ vs len o w =>
  refine .agg (by rw [← h.get.1]; exact len) o fun i c u x y => ?_
  obtain ⟨a, ha, s⟩ := h.get.2 i c x
  exact s.use _ _ (w i a u ha y)⟩
theorem Sub.lslc {sz off len : Nat} {lim : Bool} {l m : List (List AV)} (h : SubR l m) : Sub (.lslc sz l off len lim) (.lslc sz m off len lim) := ⟨fun σ v hv => by
 cases hv with
 | lslc g hw hc ho hh h1 h3 h5 =>
  refine .lslc g (fun i row x => ?_) (fun i j c x => ?_) (fun i j c x => ?_) (fun i j c x => ?_) (by rw [← h.get.1]; exact h1) h3 h5
  ·obtain ⟨a, ha, s⟩ := h.get.2 i row x
   rw [← s.get.1]; exact hw i a ha
  ·obtain ⟨a, ha, s⟩ := h.cell x
   exact hc i j a ha
  ·obtain ⟨a, ha, s⟩ := h.cell x
   exact ho i j a ha
  ·obtain ⟨a, ha, s⟩ := h.cell x
   exact s.use _ _ (hh i j a ha)
 | lnil => exact .lnil
 | lz => exact .lz⟩
theorem SubL.rels {σ : Sg} {l m : List AV} {vs : List Value} (h : SubL l m) (x : VRels σ l vs) : VRels σ m vs := by
 refine ⟨by rw [← h.get.1]; exact x.1, fun i b v y z => ?_⟩
 obtain ⟨a, ha, s⟩ := h.get.2 i b y
 exact s.use _ _ (x.2 i a v ha z)
theorem ACalls.sub {P : Program} {f : FuncId} {l m : List AV} {h : Heap} {K : AV → Heap → Prop} (c : ACalls P f m h K) (s : SubL l m) : ACalls P f l h K :=
 ⟨fun σ w vs sm v => c.use σ w vs sm (s.rels v)⟩
theorem PRet.sub {P : Program} {f : FuncId} {l m : List AV} {r : AV} (c : PRet P f m r) (s : SubL l m) : PRet P f l r := ⟨⟨c.out.out.sub s⟩⟩
theorem Sim.liftC {σ : Sg} {h : Heap} {w : World} (s : Sim σ h w) {b j e sz i k : Nat} {rows : List (List AV)} {row : List AV} (hne : b ≠ j) (hb : h[Id.s b]? = some (.vec e rows)) (hr : rows[i]? = some row) (hk : row[k]? = some .nils) :
  ∃ ep σ1, Mv σ h w σ1 ((h.set (.s j) (.vec ep [])).set (.s b) (.vec e (rows.set i (row.set k (.oslc (.s j) ep sz 0 0 false))))) w := by
 obtain ⟨ep, σ1, m1, hp⟩ := s.allocNil (.s j)
 have hb1 : (h.set (.s j) (.vec ep []))[Id.s b]? = some (.vec e rows) := by
  rw [Heap.getElem?_set_ne (fun x => hne (Id.s.inj x).symm)]; exact hb
 refine ⟨ep, σ1, m1.trans ?_⟩
 rcases m1.sim.obj _ _ hb1 with ⟨x, _⟩ | ⟨blk, st, sz1, n, size, cs, T, h1, h2, h3, h4, h5, h6, h7, h8⟩
 ·subst x; simp at hr
 ·refine m1.sim.write (blk := blk) hb1 (by simp [AObj.blk, h1]) (by simp [AObj.blk, h1]) (fun _ _ => rfl) rfl (.refl w) (.inr ⟨blk, st, sz1, n, size, cs, T, h1, h2, h3, by simpa using h4, h5, h6, fun i' row' hr' => ?_, fun i' k' c hc => ?_⟩)
  ·by_cases hi : i = i'
   ·subst hi
    rw [List.getElem?_set_self'] at hr'
    rw [hr] at hr'
    simp at hr'
    subst hr'
    have := h7 i row hr
    simpa using this
   ·rw [List.getElem?_set_ne hi] at hr'
    exact h7 i' row' hr'
  ·obtain ⟨row', hr', hk'⟩ := cellAt_get hc
   by_cases hi : i = i'
   ·subst hi
    rw [List.getElem?_set_self', hr] at hr'
    simp at hr'
    subst hr'
    by_cases hkk : k = k'
    ·subst hkk
     rw [List.getElem?_set_self', hk] at hk'
     simp at hk'
     subst hk'
     obtain ⟨v, a1, a2, a3⟩ := h8 i k .nils (by simp [cellAt, hr, hk])
     cases a3
     exact ⟨_, a1, a2, .onil hp⟩
    ·rw [List.getElem?_set_ne hkk] at hk'
     exact h8 i k' c (by simp [cellAt, hr, hk'])
   ·rw [List.getElem?_set_ne hi] at hr'
    exact h8 i' k' c (by simp [cellAt, hr', hk'])
theorem wk_liftC {C : Ctx} {c : Code} {fr : List AV} {h : Heap} {K : AE → List AV → Heap → Prop} (b j e sz i k : Nat) {rows : List (List AV)} {row : List AV} (hne : b ≠ j) (hb : h[Id.s b]? = some (.vec e rows)) (hr : rows[i]? = some row) (hk : row[k]? = some .nils)
  (hc : ∀ ep, WK C c fr ((h.set (.s j) (.vec ep [])).set (.s b) (.vec e (rows.set i (row.set k (.oslc (.s j) ep sz 0 0 false))))) K) : WK C c fr h K := by
 refine ⟨fun rd B σ w a Q hrd hy hB s hf hd hQ => ?_⟩
 obtain ⟨ep, σ1, m⟩ := s.liftC (sz := sz) hne hb hr hk
 exact (hc ep).use rd B σ1 w a Q hrd (hy.mono m.le) hB m.sim (hf.mono m.le) (hd.mono m.le) fun e fr2 h2 σ2 a2 w2 k2 m2 => hQ e fr2 h2 σ2 a2 w2 k2 (m.trans m2)
end Go.Ab

namespace Go.Ab
theorem loopX {C : Ctx} {c : Code} (ok : COk C) (hm : C.P.follows .mixedOrders = true) {A : Ann} (l : List Nat) (kp : List Nat) {S : Type} (fr : S → List AV) (h : S → Heap) (μ : S → Nat) {K : AE → List AV → Heap → Prop} {fr0 : List AV} {h0 : Heap} (s0 : S)
  (e1 : maskF 0 l fr0 = fr s0) (e2 : maskH 0 kp h0 = h s0) (lo ko : List Nat) {S' : Type} (X : S' → Nat) (frX : S' → List AV) (hX : S' → Heap) (R : List AV → Heap → Prop)
  (hround : ∀ s, aexR C A c (fr s) (h s) fun e fr' h' => match e with
   | .normal => Back fun s' => maskF 0 l fr' = fr s' ∧ maskH 0 kp h' = h s' ∧ μ s' < μ s
   | .exit id => Back fun s' => id = X s' ∧ maskF 0 lo fr' = frX s' ∧ maskH 0 ko h' = hX s'
   | .ret => R fr' h')
  (hr : ∀ fr h, R fr h → K .ret fr h) (hk : ∀ s', K (.exit (X s')) (frX s') (hX s')) : WK C (.loop c) fr0 h0 K := by
 have key := loopM (K := fun e fr' h' => match e with
   | .normal => False
   | .exit id => Back fun s' => id = X s' ∧ maskF 0 lo fr' = frX s' ∧ maskH 0 ko h' = hX s'
   | .ret => R fr' h') ok hm (A := A) l kp fr h μ s0 e1 e2 hround
 refine ⟨fun rd B σ w a Q hrd hy hB sm hf hd hQ => ?_⟩
 refine key.use rd B σ w a Q hrd hy hB sm hf hd fun e fr' h' σ' a' w' k m v d => ?_
 cases e with
 | normal => exact k.elim
 | ret => exact hQ .ret fr' h' σ' a' w' (hr _ _ k) m v d
 | exit id =>
  obtain ⟨s', rfl, e3, e4⟩ := back_ex k
  have m3 : Mv σ' h' w' σ' (maskH 0 ko h') w' := m.sim.forget fun i o x => maskH_get _ _ _ _ _ x
  rw [e4] at m3
  have v3 := maskF_rel fr' 0 lo _ v
  rw [e3] at v3
  exact hQ (.exit (X s')) _ _ σ' a' w' (hk s') (m.trans m3) v3 d
theorem loopY {C : Ctx} {c : Code} (ok : COk C) (hm : C.P.follows .mixedOrders = true) {A : Ann} (l : List Nat) (kp : List Nat) {S : Type} (fr : S → List AV) (h : S → Heap) (μ : S → Nat) {K : AE → List AV → Heap → Prop} {fr0 : List AV} {h0 : Heap} (s0 : S)
  (e1 : maskF 0 l fr0 = fr s0) (e2 : maskH 0 kp h0 = h s0) (lo ko : List Nat) {S' : Type} (X : S' → Nat) (frX : S' → List AV) (hX : S' → Heap) (lr kr : List Nat) {S2 : Type} (frR : S2 → List AV) (hR : S2 → Heap)
  (hround : ∀ s, aexR C A c (fr s) (h s) fun e fr' h' => match e with
   | .normal => Back fun s' => maskF 0 l fr' = fr s' ∧ maskH 0 kp h' = h s' ∧ μ s' < μ s
   | .exit id => Back fun s' => id = X s' ∧ maskF 0 lo fr' = frX s' ∧ maskH 0 ko h' = hX s'
   | .ret => Back fun s' => maskF 0 lr fr' = frR s' ∧ maskH 0 kr h' = hR s')
  (hr : ∀ s', K .ret (frR s') (hR s')) (hk : ∀ s', K (.exit (X s')) (frX s') (hX s')) : WK C (.loop c) fr0 h0 K := by
 have key := loopM (K := fun e fr' h' => match e with
   | .normal => False
   | .exit id => Back fun s' => id = X s' ∧ maskF 0 lo fr' = frX s' ∧ maskH 0 ko h' = hX s'
   | .ret => Back fun s' => maskF 0 lr fr' = frR s' ∧ maskH 0 kr h' = hR s') ok hm (A := A) l kp fr h μ s0 e1 e2 hround
 refine ⟨fun rd B σ w a Q hrd hy hB sm hf hd hQ => ?_⟩
 refine key.use rd B σ w a Q hrd hy hB sm hf hd fun e fr' h' σ' a' w' k m v d => ?_
 have fin : ∀ (e : AE) (lo ko : List Nat) (fr2 : List AV) (h2 : Heap), maskF 0 lo fr' = fr2 → maskH 0 ko h' = h2 → K e fr2 h2 → Q e.toExit a' w' := by
  intro e lo ko fr2 h2 e3 e4 hK
  have m3 : Mv σ' h' w' σ' (maskH 0 ko h') w' := m.sim.forget fun i o x => maskH_get _ _ _ _ _ x
  rw [e4] at m3
  have v3 := maskF_rel fr' 0 lo _ v
  rw [e3] at v3
  exact hQ e _ _ σ' a' w' hK (m.trans m3) v3 d
 cases e with
 | normal => exact k.elim
 | ret =>
  obtain ⟨s', e3, e4⟩ := back_ex k
  exact fin .ret lr kr _ _ e3 e4 (hr s')
 | exit id =>
  obtain ⟨s', rfl, e3, e4⟩ := back_ex k
  exact fin (.exit (X s')) lo ko _ _ e3 e4 (hk s')
end Go.Ab

namespace Go.Ab
end Go.Ab
