/-
  What is proved here serves the law's text: each part says its own claim and its conditions. No condition is left open.
-/
import Derived.Test.YthdhhhgjdegafaaKF
set_option linter.unusedSimpArgs false
set_option linter.unusedVariables false

/-
  Rules of codes, step by step; a drawn region with places of any kind. No condition.
-/
namespace Go.Ab

section
variable {C : Ctx} {fr : List AV} {h : Heap} {K : AE → List AV → Heap → Prop}

theorem wk_skip (k : K .normal fr h) : WK C .skip fr h K :=
  ⟨fun rd B σ w a Q hrd hy hB s hf hd hQ => wpIn_skip (hQ .normal fr h σ a w k (.refl s) hf hd)⟩
theorem wk_exit {id : Nat} (k : K (.exit id) fr h) : WK C (.exit id) fr h K :=
  ⟨fun rd B σ w a Q hrd hy hB s hf hd hQ => wpIn_exit (hQ (.exit id) fr h σ a w k (.refl s) hf hd)⟩
theorem wk_ret (k : K .ret fr h) : WK C .ret fr h K :=
  ⟨fun rd B σ w a Q hrd hy hB s hf hd hQ => wpIn_ret (hQ .ret fr h σ a w k (.refl s) hf hd)⟩
theorem wk_seq {x y : Code} (k : WK C x fr h fun e fr h => match e with
    | .normal => WK C y fr h K
    | .exit id => K (.exit id) fr h
    | .ret => K .ret fr h) : WK C (.seq x y) fr h K := by
  refine ⟨fun rd B σ w a Q hrd hy hB s hf hd hQ => ?_⟩
  refine wpIn_seq (k.use rd B σ w a _ hrd hy hB s hf hd fun e fr' h' σ' a' w' k m v d => ?_)
  cases e with
  | normal => exact k.use rd B σ' w' a' Q hrd (hy.mono m.le) (Nat.le_trans hB m.size) m.sim v d fun e2 fr2 h2 σ2 a2 w2 k2 m2 v2 d2 => hQ e2 fr2 h2 σ2 a2 w2 k2 (m.trans m2) v2 d2
  | exit id => exact hQ (.exit id) fr' h' σ' a' w' k m v d
  | ret => exact hQ .ret fr' h' σ' a' w' k m v d
theorem wk_cond {c : Operand} {x y : Code} {t : Bool} (ht : evl fr c = .bool t) (k : WK C (bif t then x else y) fr h K) : WK C (.cond c x y) fr h K := by
  refine ⟨fun rd B σ w a Q hrd hy hB s hf hd hQ => ?_⟩
  have hr := evl_rel hf c
  rw [ht] at hr
  have hv : a.eval c = .bool t := by
    generalize a.eval c = u at hr
    cases hr; rfl
  cases t with
  | true => exact wpIn_cond_true hv (k.use rd B σ w a Q hrd hy hB s hf hd hQ)
  | false => exact wpIn_cond_false hv (k.use rd B σ w a Q hrd hy hB s hf hd hQ)
theorem wk_block {id : Nat} {b : Code} (k : WK C b fr h fun e fr h => match e with
    | .exit id' => if id' = id then K .normal fr h else K (.exit id') fr h
    | .normal => K .normal fr h
    | .ret => K .ret fr h) : WK C (.block id b) fr h K := by
  refine ⟨fun rd B σ w a Q hrd hy hB s hf hd hQ => ?_⟩
  refine wpIn_block (k.use rd B σ w a _ hrd hy hB s hf hd fun e fr' h' σ' a' w' k m v d => ?_)
  cases e with
  | normal => exact hQ .normal fr' h' σ' a' w' k m v d
  | exit id' =>
    show (if id' = id then Q .normal a' w' else Q (.exit id') a' w')
    simp only at k
    split
    · rename_i e
      rw [if_pos e] at k
      exact hQ .normal fr' h' σ' a' w' k m v d
    · rename_i e
      rw [if_neg e] at k
      exact hQ (.exit id') fr' h' σ' a' w' k m v d
  | ret => exact hQ .ret fr' h' σ' a' w' k m v d

/-- so many rounds at most -/
def UnrW (C : Ctx) (c : Code) (K : AE → List AV → Heap → Prop) : Nat → List AV → Heap → Prop
  | 0, _, _ => False
  | n + 1, fr, h => WK C c fr h fun e fr' h' => match e with
    | .normal => UnrW C c K n fr' h'
    | .exit id => K (.exit id) fr' h'
    | .ret => K .ret fr' h'
theorem wk_loopN {c : Code} (n : Nat) {fr0 : List AV} {h0 : Heap} (hk : UnrW C c K n fr0 h0) : WK C (.loop c) fr0 h0 K := by
  refine ⟨fun rd B σ w a Q hrd hy hB sm hf hd hQ => ?_⟩
  intro b k cs hro hbf hroom
  have key : ∀ n fr1 h1 σ' w' a', UnrW C c K n fr1 h1 → Mv σ h0 w σ' h1 w' → VRels σ' fr1 a'.tmps.toList → DfOk B σ' a'.defers →
      ∃ e a'' w'', Q e a'' w'' ∧ ArrivesIn (Machine.fenced C.P (FR rd)) C.P (lone (b.atR a' (.code c :: .inLoop c :: k)) cs w') b k cs e a'' w'' := by
    intro n
    induction n with
    | zero => intro fr1 h1 σ' w' a' hk; exact hk.elim
    | succ n ih =>
      intro fr1 h1 σ' w' a' hx m hv hd'
      let Q0 : Exit → Act → World → Prop := fun e a2 w2 => match e with
        | .normal => ∃ fr2 h2 σ2, UnrW C c K n fr2 h2 ∧ Mv σ h0 w σ2 h2 w2 ∧ VRels σ2 fr2 a2.tmps.toList ∧ DfOk B σ2 a2.defers
        | e => Q e a2 w2
      have hr : c.wpIn (FR rd) 0 C.P Q0 a' w' := WK.use hx rd B σ' w' a' Q0 hrd (hy.mono m.le) (Nat.le_trans hB m.size) m.sim hv hd' fun e fr2 h2 σ2 a2 w2 k2 m2 v2 d2 => by
        cases e with
        | normal => exact ⟨fr2, h2, σ2, k2, m.trans m2, v2, d2⟩
        | exit id => exact hQ (.exit id) fr2 h2 σ2 a2 w2 k2 (m.trans m2) v2 d2
        | ret => exact hQ .ret fr2 h2 σ2 a2 w2 k2 (m.trans m2) v2 d2
      obtain ⟨e, a2, w2, hq, harr⟩ := hr b (.inLoop c :: k) cs hro hbf hroom
      cases e with
      | normal =>
        obtain ⟨fr2, h2, σ2, u2, m2, v2, d2⟩ := hq
        obtain ⟨e3, a3, w3, hq3, harr3⟩ := ih fr2 h2 σ2 w2 a2 u2 m2 v2 d2
        exact ⟨e3, a3, w3, hq3, .of_steps (StepsIn.trans harr (.one (fenced_calm hbf hroom rfl) stepR_inLoop)) harr3⟩
      | exit id => exact ⟨_, a2, w2, hq, .pass (x := .inLoop c) rfl (fun _ _ => .inl (by simp)) harr⟩
      | goto l => exact ⟨_, a2, w2, hq, .pass (x := .inLoop c) rfl (fun _ _ => .inl (by simp)) harr⟩
      | ret => exact ⟨_, a2, w2, hq, .pass (x := .inLoop c) rfl (fun _ _ => .inl (by simp)) harr⟩
      | panic ch => exact ⟨_, a2, w2, hq, .pass (x := .inLoop c) rfl (fun _ _ => .inl (by simp)) harr⟩
      | outgrown => exact ⟨_, a2, w2, hq, .pass (x := .inLoop c) rfl (fun _ _ => .inl (by simp)) harr⟩
  obtain ⟨e, a', w', hq, harr⟩ := key n fr0 h0 σ w a hk (.refl sm) hf hd
  exact ⟨e, a', w', hq, .of_steps (.one (fenced_calm hbf hroom rfl) stepR_loop) harr⟩

/-- more places in the heap -/
theorem wk_grow {c : Code} (n : Nat) (k : WK C c fr ⟨h.st, h.dy ++ List.replicate n .hole⟩ K) : WK C c fr h K := by
  refine ⟨fun rd B σ w a Q hrd hy hB s hf hd hQ => ?_⟩
  have m : Mv σ h w σ ⟨h.st, h.dy ++ List.replicate n .hole⟩ w := s.forget fun i o x => by
    cases i with
    | s k => exact .inr x
    | d k =>
      have x : (h.dy ++ List.replicate n .hole)[k]? = some o := x
      rw [List.getElem?_append] at x
      split at x
      · exact .inr x
      · rw [List.getElem?_replicate] at x
        split at x
        · exact .inl (Option.some.inj x).symm
        · cases x
  exact k.use rd B σ w a Q hrd hy hB m.sim hf hd fun e fr2 h2 σ2 a2 w2 k2 m2 => hQ e fr2 h2 σ2 a2 w2 k2 (m.trans m2)

/-- a region in the text's order -/
theorem wk_text (ok : COk C) {id : Nat} {ops : Array Oper} {slot : Nat → Id} (k : runOrd C ops slot (List.range ops.size) fr h fun fr h => K .normal fr h) : WK C (.region id ops false) fr h K :=
  ⟨fun rd B σ w a Q hrd hy hB s hf hd hQ => wpIn_region (runOrd_sound ok _ hy hf s k fun fr' h' σ' a' w' k m v d => hQ .normal fr' h' σ' a' w' k m v (by rw [d]; exact hd.mono m.le))⟩

/-- does every order come to what the order 'canon' comes to? -/
def drawOkS (C : Ctx) (ops : Array Oper) (slot : Nat → Id) (canon : List Nat) : Bool :=
  canon.length == ops.size && (List.range ops.size).all (fun k => canon.contains k) && canon.all (· < ops.size) && Region.noSelect ops && predsOk ops [] canon && pairsOk C ops slot canon
theorem wk_draw (ok : COk C) (hm : C.P.follows .mixedOrders = true) {id : Nat} {ops : Array Oper} {slot : Nat → Id} {canon : List Nat} (hd : drawOkS C ops slot canon = true)
    (hk : runOrd C ops slot canon fr h fun fr h => K .normal fr h) : WK C (.region id ops true) fr h K := by
  refine ⟨fun rd B σ w a Q hrd hy hB s hf hdf hQ => ?_⟩
  unfold drawOkS at hd
  simp only [Bool.and_eq_true, beq_iff_eq, List.all_eq_true, decide_eq_true_eq] at hd
  obtain ⟨⟨⟨⟨⟨d1, d0⟩, d2⟩, d3⟩, d4⟩, d5⟩ := hd
  obtain ⟨p1, p2, p3⟩ := predsOk_spec d4
  have m0 : Mv σ h w σ h { w with drawn := w.drawn + 1 } := s.same rfl ⟨rfl, rfl, rfl⟩
  refine wpIn_region_any hm ?_
  have hrep : ∀ k, (Array.replicate ops.size false).getD k false = false := fun k => by
    simp only [Array.getD]
    split <;> simp
  refine draw_any ok ops.size d1 ⟨by simp, fun k => ?_, p1, pairsOk_spec d5, fun pre i post he o ho e hea hb => ?_, fun k o ho hkl => ?_⟩ hy hf m0.sim hk fun fr' h' σ' a' w' k m v d => hQ .normal fr' h' σ' a' w' k (m0.trans m) v (by rw [d]; exact hdf.mono (m0.trans m).le)
  · rw [hrep]
    refine ⟨fun hk => ⟨d2 k hk, rfl⟩, fun ⟨hk, _⟩ => ?_⟩
    have := d0 k (List.mem_range.2 hk)
    simpa using this
  · exact .inr ((p3 pre i post he o ho e hea hb).resolve_left (by simp))
  · rw [hrep] at hkl; cases hkl

/-- a region that draws, by a plan -/
theorem wk_plan (ok : COk C) (hm : C.P.follows .mixedOrders = true) {id : Nat} {ops : Array Oper} {slot : Nat → Id} {p : Plan} (hd : p.ok C ops slot (List.range ops.size) = true)
    (hk : p.run C ops slot fr h fun fr h => K .normal fr h) : WK C (.region id ops true) fr h K := by
  refine ⟨fun rd B σ w a Q hrd hy hB s hf hdf hQ => ?_⟩
  have m0 : Mv σ h w σ h { w with drawn := w.drawn + 1 } := s.same rfl ⟨rfl, rfl, rfl⟩
  refine wpIn_region_any hm ?_
  have hrep : ∀ k, (Array.replicate ops.size false).getD k false = false := fun k => by
    simp only [Array.getD]
    split <;> simp
  refine draw_plan ok ops.size (rem := List.range ops.size) (by simp) hd ⟨by simp, fun k => ?_, List.nodup_range, fun k o ho hkl => ?_⟩ hy hf m0.sim hk fun fr' h' σ' a' w' k m v d => hQ .normal fr' h' σ' a' w' k (m0.trans m) v (by rw [d]; exact hdf.mono (m0.trans m).le)
  · rw [hrep]; simp
  · rw [hrep] at hkl; cases hkl

/-- a function's contract out of its body's -/
theorem acalls_wk {f : FuncId} {fn : Func} {c : Code} (ok : COk C) (hf : C.P.funcs[f]? = some fn) (hb : fn.body = some c) {args : List AV} {h : Heap} {K : AV → Heap → Prop} (hy : C.yl = none)
    (hk : WK C c (frame0 args fn.ntmps) h fun e fr h' => match e with
      | .normal | .ret => resK C.ti fr h' fn.results.toList fun vs => K (resV vs) h'
      | .exit _ => False) : ACalls C.P f args h K := by
  refine ⟨fun σ w vs s hv => ?_⟩
  have hy : YOk C σ := YOk.none hy
  refine callsFR' (rd := none) (n := 0) (callsIn_of_wp_marks hf hb trivial ?_)
  have hl : args.length = vs.size := by have := hv.1; simpa using this
  have hfr : VRels σ (frame0 args fn.ntmps) (vs ++ Array.replicate (fn.ntmps - vs.size) undef).toList := by
    simp only [frame0, Array.toList_append, Array.toList_replicate]
    refine VRels.append hv ⟨by simp [hl], fun i a v x y => ?_⟩
    rw [List.getElem?_replicate] at x
    split at x
    · cases x; exact .u
    · cases x
  refine hk.use none w.heap.size σ w { tmps := vs ++ Array.replicate (fn.ntmps - vs.size) undef, defers := [] } _ (fun _ => rfl) hy (Nat.le_refl _) s hfr .nil fun e fr' h' σ' a' w' k m hv' hd' => ?_
  have fin : resK C.ti fr' h' fn.results.toList (fun vs => K (resV vs) h') → LeavesInM (FR none) 0 C.P fn a'.tmps (fun e w' => ∃ v, e = .returned v ∧ ∃ σ' h' r, K r h' ∧ Mv σ h w σ' h' w' ∧ VRel σ' r v) a'.defers .returning w' := by
    intro k
    obtain ⟨l, e1, e2, e3⟩ := hd'
    rw [e1]
    refine leavesM (σ := σ) (h := h) (w := w) (fr' := fr') (h' := h') (fun b o x hb => by have := (Array.getElem?_eq_some_iff.1 (s.rm b o x).1).1; omega) (fun σ2 w2 m2 v2 => ?_) l σ' w' e2 e3 m hv'
    obtain ⟨v, rs, h1, h2, h3⟩ := results_sound ok m2.sim v2 fn k
    exact ⟨v, h1, v, rfl, σ2, h', _, h3, m2, h2⟩
  cases e with
  | normal => exact fin k
  | ret => exact fin k
  | exit id => exact k.elim
end
end Go.Ab
