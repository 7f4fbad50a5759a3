/-
  What is proved here serves the law's text: each part says its own claim and its conditions. No condition is left open.
-/
import Derived.Test.YtchkiolagohnlaaGreatKT
import Derived.Test.YtchkiolagohnlaaGreatKO
import Derived.Test.YtchkiolagohnlaaGreatKM
import Derived.Test.YtchkiolagohnlaaGreatKU
import Derived.Test.YtchkiolagohnlaaGreatKV
set_option linter.unusedSimpArgs false
set_option linter.unusedVariables false

/-
  The example works. No condition.
-/
namespace Go.Ab.V
open Go.Proofs

def pc0 : Pc := { ins := { cs := [⟨60, 3, false⟩, ⟨48, 0, true⟩], steps := [1, 2, 3] }, evs := [⟨false, 4, false, false, false, [⟨1, 3, 0, 0, 0⟩, ⟨2, 0, 0, 0, 0⟩]⟩, ⟨false, 0, false, false, false, [⟨1, 0, 0, 0, 0⟩]⟩] }
theorem ok0 : pc0.Ok := ⟨by decide, by decide, by decide, by decide⟩
def strs0 : List Nt := [⟨0, 1, 63, 0, 48⟩, ⟨0, 2, 48, 0, 96⟩, ⟨0, 2, 60, 0, 96⟩, ⟨1, 1, 60, 48, 96⟩]
def on0 : AV := .tup [.lslc 1 [[.int .i64 0], [.int .i64 48], [.int .i64 96]] 0 3 false, .int .i64 0]
def pt0 : AV := .lslc 1 [[.int .i64 48], [.int .i64 60], [.int .i64 63]] 0 3 false
theorem onsV0 : onsV pc0 = on0 := by kernel_rfl
theorem srt_eq {l m : List Int} (hp : m.Perm l) (hs : m.Pairwise (· ≤ ·)) : srt l = m := by
  rw [← srt_perm hp]
  exact List.mergeSort_of_pairwise (le := fun x y : Int => decide (x ≤ y)) (hs.imp fun h => by simpa using h)
theorem pit0 : intsA (pit 0 strs0) = pt0 := by
  have e : pit 0 strs0 = [48, 60, 63] := srt_eq (l := [63, 48, 60]) (by decide) (by decide)
  rw [e]; rfl
theorem ons_w : PRet C.P 55 [pcA pc0] on0 := by
  have h := onsets_spec pc0 ok0
  rwa [onsV0] at h
theorem pit_w : PRet C.P 41 [ntsA strs0, .int .i64 0] pt0 := by
  have h := pitches57 strs0 0 (by decide)
  rwa [pit0] at h
noncomputable def G0 : XP := fun f args => match given 55 [pcA pc0] on0 f args with
  | some r => some r
  | none => given 41 [ntsA strs0, .int .i64 0] pt0 f args
theorem G0_ok : POk CX G0 := by
  intro f args r h hp
  unfold G0 at h
  split at h
  · rename_i r0 hr
    cases h
    exact given_ok (C := CX) (by kernel_rfl) ons_w f args _ hr hp
  · exact given_ok (C := CX) (by kernel_rfl) pit_w f args r h hp
set_option maxRecDepth 100000 in
theorem notes_w : PRet C.P 17 [pcA pc0] (.tup [.lslc 5 [[.int .i64 0, .int .i64 1, .int .i64 63, .int .i64 0, .int .i64 48], [.int .i64 0, .int .i64 2, .int .i64 48, .int .i64 0, .int .i64 96], [.int .i64 1, .int .i64 1, .int .i64 60, .int .i64 48, .int .i64 96]] 0 3 false, .int .i64 0]) := pret_runG (C := CX) (oke _ _) mixed rfl 100 40 G0_ok xfetch_ok xcode_ok (by kernel_rfl) (by kernel_rfl)
set_option maxRecDepth 100000 in
theorem at_w : PRet C.P 18 [pcA pc0, .int .i64 0] (.tup [pt0, .int .i64 0]) := pret_runG (C := CX) (oke _ _) mixed rfl 100 40 G0_ok xfetch_ok xcode_ok (by kernel_rfl) (by kernel_rfl)
theorem conc_w : PRet C.P 19 [intsA [48, 55, 64]] (.bool true) := by
  have h := conc27 [48, 55, 64] (by decide) (by decide)
  rwa [show rc [48, 55, 64] = true by decide] at h
theorem pret_eq {P : Program} {f : FuncId} {args args' : List AV} {r : AV} (h : PRet P f args r) (e : args' = args) : PRet P f args' r := e ▸ h
theorem pureRows_of {rows : List (List AV)} (h : (rows.all fun r => r.all AV.pure1) = true) : pureRows rows :=
  fun row hr c hc => List.all_eq_true.1 (List.all_eq_true.1 h row hr) c hc

def A6 : Ann := fun r => match r with
  | 1 => { slots := [(2, 0), (3, 1), (5, 2)] }
  | 2 => { slots := [(4, 3), (7, 4), (9, 5), (11, 6)], frz := [1003, 1004, 1000, 1001, 1005] }
  | 5 => { slots := [(49, 7)] }
  | _ => {}
set_option maxHeartbeats 4000000 in
set_option maxRecDepth 100000 in
theorem works_spec : PRet C.P 6 [] (.bool true) := by
  refine pret_of (okx [] [19]) mixed (A := A6) 8 Tryz.func6 rfl ?_
  (repeat' (first | exact rfl | ((conv => whnf); first | exact rfl | refine ⟨by kernel_rfl, ?_⟩ | exact ⟨rfl, rfl⟩ | refine ⟨rfl, ?_⟩ | refine ⟨by (first | omega | (simp (disch := omega) only [wrapI]; omega) | (simp (disch := omega) only [wrapI]; simp; omega) | (simp; omega)), ?_⟩ | (intro ep) | refine ⟨pureRows_of (by kernel_rfl), by (repeat' (first | exact trivial | exact eqsP_rows _ (fun x => rfl) | ((conv => whnf); first | exact trivial | refine ⟨rfl, ?_⟩ | refine ⟨?_, ?_⟩ | fail))), by (repeat' (first | exact trivial | exact eqsP_rows _ (fun x => rfl) | ((conv => whnf); first | exact trivial | refine ⟨rfl, ?_⟩ | refine ⟨?_, ?_⟩ | fail))), by (repeat' (first | exact trivial | exact eqsP_rows _ (fun x => rfl) | ((conv => whnf); first | exact trivial | refine ⟨rfl, ?_⟩ | refine ⟨?_, ?_⟩ | fail))), ?_⟩ | refine ⟨by decide, ?_⟩ | refine optS rfl ?_ | refine ⟨_, pret_eq notes_w (by kernel_rfl), ?_⟩ | refine ⟨_, pret_eq at_w (by kernel_rfl), ?_⟩ | (refine ACalls.fz 7 ?_; (conv => whnf); refine ⟨pureRows_of (by kernel_rfl), by (repeat' (first | exact trivial | exact eqsP_rows _ (fun x => rfl) | ((conv => whnf); first | exact trivial | refine ⟨rfl, ?_⟩ | refine ⟨?_, ?_⟩ | fail))), by (repeat' (first | exact trivial | exact eqsP_rows _ (fun x => rfl) | ((conv => whnf); first | exact trivial | refine ⟨rfl, ?_⟩ | refine ⟨?_, ?_⟩ | fail))), by (repeat' (first | exact trivial | exact eqsP_rows _ (fun x => rfl) | ((conv => whnf); first | exact trivial | refine ⟨rfl, ?_⟩ | refine ⟨?_, ?_⟩ | fail))), ?_⟩; refine PRet.calls (pret_eq conc_w (by kernel_rfl)) ?_) | (refine ifB (fun hb => ?_) (fun hb => ?_) <;> (try simp only [decide_eq_true_eq, decide_eq_false_iff_not, beq_iff_eq, beq_eq_false_iff_ne, bne_iff_ne, bne_eq_false_iff_eq, ne_eq, not_false_eq_true, not_true_eq_false, Bool.not_eq_true, Bool.not_eq_true', Bool.not_eq_false', Int.not_lt, Int.not_le] at hb) <;> (try simp (disch := omega) only [wrapI] at hb) <;> (try (exfalso; omega))) | fail)))
end Go.Ab.V
