/-
  The law VoiceTablature returns true at every input, and leaves its input as it was. No condition.
-/
import Derived.Test.YthdhhhgjdegafaaRows
import Derived.WalkKit
import Derived.ProofKit
import Derived.ChangeOld
import Derived.Below
import Derived.Test.YthdhhhgjdegafaaJQ
set_option linter.unusedSimpArgs false
set_option linter.unusedVariables false

namespace Go.Proofs.Ythdhhhgjdegafaa
open Go.ChangeShapes Go.WideShapes Go.ChangeAt Go.RowKit

theorem voiceTablatureOwn : ownKnob Try.prog.godebug = none := by kernel_rfl
theorem voiceTablatureLaid : laidOutB Try.prog = true := by kernel_rfl

set_option maxRecDepth 100000 in
theorem voiceTablatureLifted (os : Os) (started : os.Started) (H : Type) (enc : TypeId × Value → H) :
    ReturnsInHanded {} Try.checked os 9 .any (Rows.voiceTablatureSpec.pre6 enc Try.prog Try.f9 Rows.voiceTablatureRow.domain false) (Rows.voiceTablatureSpec.post enc Try.prog Try.f9 false true false false) := by
  refine returnsInHanded_of_change (C := Try.checked) voiceTablatureOwn started (by kernel_rfl) Try.func9
    (ChangeSpec.witness6 (enc := enc) (C := Try.checked) false ⟨#[], #[.agg #[.slice none 0 0, .slice none 0 0, .slice none 0 0], .agg #[.slice none 0 0, .slice none 0 0, .int .i64 0, .int .i64 0, .int .i64 0], .int .i64 0], []⟩ 8 (by kernel_rfl) (by kernel_rfl) (by kernel_rfl) (by kernel_rfl)) ?_
  intro W base args ds gs before hval0 hW hcnd _
  have hval : ∀ (j : Nat) t v, Try.f9.params[j]? = some t → args[j]? = some v → Value.okWide Try.prog W .any base t v := hval0
  have hW' := hW
  obtain ⟨p, q, hA0, hV, rfl, hfz, hnd⟩ := hW
  have hA : DataW.TrodAll enc Try.prog W 0 (fun _ => true) true Try.f9.params.toList args.toList ds p := hA0
  rw [Try.params9] at hA hval
  obtain ⟨v0, vs0, d0, ds0, p0, q0, hargs, rfl, rfl, h0, r0⟩ := trodAll_cons hA
  obtain ⟨v1, vs1, d1, ds1, p1, q1, rfl, rfl, rfl, h1, r1⟩ := trodAll_cons r0
  obtain ⟨v2, vs2, d2, ds2, p2, q2, rfl, rfl, rfl, h2, r2⟩ := trodAll_cons r1
  obtain ⟨rfl, rfl, rfl⟩ := trodAll_nil r2
  obtain rfl : args = #[v0, v1, v2] := by cases args; simp_all
  obtain ⟨rfl, rfl⟩ := trodVars_none hV
  have k0 := h0
  have lt0 : ∀ x ∈ p0, x.block < W.heap.size := by obtain ⟨m, hm⟩ := k0; exact DataW.trod_lt m _ _ _ hm
  obtain ⟨a0, e0, s0⟩ := Go.Ab.bridgeV (ti := Go.Ab.V.C.ti) (m := 9) Go.Ab.V.ok.tok (by decide +kernel) (hval 0 61 v0 rfl rfl) h0
  obtain ⟨x0, rfl, b0⟩ := Go.Ab.V.S.shv_piece s0
  have k1 := h1
  have lt1 : ∀ x ∈ p1, x.block < W.heap.size := by obtain ⟨m, hm⟩ := k1; exact DataW.trod_lt m _ _ _ hm
  obtain ⟨a1, e1, s1⟩ := Go.Ab.bridgeV (ti := Go.Ab.V.C.ti) (m := 9) Go.Ab.V.ok.tok (by decide +kernel) (hval 1 24 v1 rfl rfl) h1
  obtain ⟨x1, rfl, b1, c1⟩ := Go.Ab.V.shv_lim s1
  have k2 := h2
  have lt2 : ∀ x ∈ p2, x.block < W.heap.size := by obtain ⟨m, hm⟩ := k2; exact DataW.trod_lt m _ _ _ hm
  obtain ⟨a2, e2, s2⟩ := Go.Ab.bridgeV (ti := Go.Ab.V.C.ti) (m := 9) Go.Ab.V.ok.tok (by decide +kernel) (hval 2 3 v2 rfl rfl) h2
  obtain ⟨x2, rfl, b2⟩ := Go.Ab.V.shv_int s2
  clear hA0 hval0
  refine (Go.Ab.law_calls (Go.Ab.V.law_tablature x0 b0 x1 x2 b1 c1) (by exact (.cons e0 (.cons e1 (.cons e2 .nil))))).mono fun e W' ⟨he, bel⟩ => ?_
  subst he
  exact ⟨_, rfl, _, _, _, [], _, [], hW', trodAll_mk1 (shut_bool Try.underlying4 _), (trodAll_cons_mk (Below.trod voiceTablatureLaid (by kernel_rfl) (of_decide_eq_true (by kernel_rfl)) k0 bel lt0) (trodAll_cons_mk (Below.trod voiceTablatureLaid (by kernel_rfl) (of_decide_eq_true (by kernel_rfl)) k1 bel lt1) (trodAll_cons_mk (Below.trod voiceTablatureLaid (by kernel_rfl) (of_decide_eq_true (by kernel_rfl)) k2 bel lt2) trodAll_mk0))), rfl, bel.frame _, fun h => by cases h⟩

theorem voiceTablatureProved : Rows.VoiceTablatureSaid :=
  OpenClaim.holds_of_wide 9 Try.f9 rfl rfl rfl rfl rfl rfl rfl ⟨rfl, rfl, rfl, rfl, rfl⟩ rfl rfl rfl rfl rfl (by kernel_rfl) Try.func9 (by kernel_rfl)
    (of_decide_eq_true (by kernel_rfl)) (by unfold Func.isWrapper; first | (rw [if_pos (by decide +kernel)]; kernel_rfl) | (rw [if_neg (by decide +kernel)]; exact ⟨rfl, rfl⟩))
    (fun os started H enc _ => voiceTablatureLifted os started H enc)
#print axioms voiceTablatureProved

end Go.Proofs.Ythdhhhgjdegafaa
