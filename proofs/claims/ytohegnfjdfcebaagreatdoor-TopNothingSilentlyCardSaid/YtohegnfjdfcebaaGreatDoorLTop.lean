/-
  THE TIED CARD of TopNothingSilently: whatever a translation leaves out is declared: the law returns true at every input and leaves its input as it was; the package-level variables that its row lists read as the program's text lays them. No other condition.
-/
import Derived.Test.YtohegnfjdfcebaaGreatDoorTie
import Derived.Test.YtohegnfjdfcebaaGreatDoorCards
import Derived.WalkKit
import Derived.ProofKit
import Derived.ChangeOld
import Derived.Below
import Derived.OpenShut
import Derived.LaidMore
import Derived.Lay
import Derived.SevenTiedAt
import Derived.Stop.Joined
import Derived.Test.YtohegnfjdfcebaaGreatDoorJT
set_option linter.unusedSimpArgs false
set_option linter.unusedVariables false

namespace Go.Proofs.YtohegnfjdfcebaaGreatDoor
open Go.ChangeShapes Go.WideShapes Go.ChangeAt Go.RowKit

theorem topNothingOwn : ownKnob Tryz.prog.godebug = none := by kernel_rfl
theorem topNothingLaid : laidOutB Tryz.prog = true := by kernel_rfl

/-- a table of numbers, read -/
theorem topNothingTab {W : World} {t e n : Nat} {k : IntKind} {l : List Int} {cs : Array Value} {fuel : Nat} {p : List MemPlace} (ht : Tryz.prog.underlying t = some (.array n e)) (he : Tryz.prog.underlying e = some (.int k)) (hc : Tryz.prog.cellsOf e = 1) (hct : Tryz.prog.cellsOf t = l.length) (hn : n = l.length)
    (hd : DataW.trod (fun _ => ()) Tryz.prog W 0 (fun _ => true) false fuel t cs.toList = some (.agg (l.map fun i => .lit (.int k i)), p)) : cs = (l.map fun i => Value.int k i).toArray := by
  obtain ⟨xs, m, _, ex, hl, hlen, hel⟩ := DataW.trod_array ht hd
  have e3 : xs.map (·.1) = l.map fun i => .lit (.int k i) := (DataW.agg.inj (Prod.mk.inj ex).1).symm
  have key : cs.toList = l.map fun i => Value.int k i := by
    refine List.ext_getElem (by rw [hl, hct, List.length_map]) fun r h1 h2 => ?_
    rw [List.length_map] at h2
    have hE := hel r (by omega)
    rw [hc, Nat.mul_one, List.getElem?_eq_getElem (by omega)] at hE
    obtain ⟨z, e1, e2, _⟩ := DataW.trod_int he hE
    have e4 : (xs.map (·.1))[r]? = (l.map fun i => (DataW.lit (.int k i) : DataW Unit))[r]? := by rw [e3]
    rw [List.getElem?_map, List.getElem?_map, List.getElem?_eq_getElem (by omega : r < xs.length), List.getElem?_eq_getElem (by omega : r < l.length), e2] at e4
    simp only [Option.map_some, Option.some.injEq, DataW.lit.injEq, Lit.int.injEq, true_and] at e4
    have h0 : ((cs.toList.drop r).take 1)[0]? = some (.int k z) := by rw [e1]; rfl
    rw [List.getElem?_take, if_pos (by decide), List.getElem?_drop, Nat.add_zero, List.getElem?_eq_getElem h1] at h0
    rw [Option.some.inj h0, e4, List.getElem_map]
  rw [← key]
theorem topNothingVar {W : World} {n : String} {g : Nat} {cs : Array Value} (hg : Tryz.prog.globalNamed n = some g) (h : W.var? Tryz.prog n = some cs) : (Go.Ab.frozenS W).FM g = some cs := by
  unfold World.var? at h
  rw [hg] at h
  exact h
/-- WHAT THE CONDITION GIVES THE WALKS: the three tables that are read -/
theorem topNothingTabs {W : World} (h : laidMetH Tryz.prog Rows.topNothingSilentlyRow.laid W) : ∀ p ∈ Go.Ab.GL, (Go.Ab.frozenS W).FM p.1 = some p.2 := by
  rw [MakeChecks.laidMetH_plain _ _ _ (by kernel_rfl)] at h
  obtain ⟨ps, ⟨g0, t0, cs0, f0, p0, q0, _, _, _, _, ⟨g1, t1, cs1, f1, p1, q1, _, _, _, _, ⟨g2, t2, cs2, f2, p2, q2, hg2, ht2, hv2, hd2, ⟨g3, t3, cs3, f3, p3, q3, _, _, _, _, ⟨g4, t4, cs4, f4, p4, q4, hg4, ht4, hv4, hd4, ⟨g5, t5, cs5, f5, p5, q5, hg5, ht5, hv5, hd5, _, _⟩, _⟩, _⟩, _⟩, _⟩, _⟩, _, _⟩ := h
  obtain rfl := Option.some.inj ((show Tryz.prog.globalNamed "internal/strconv.uint64pow10" = some 5 by kernel_rfl).symm.trans hg2)
  obtain rfl := Option.some.inj ((show Tryz.prog.globalNamed "theorbo/instrument.bases" = some 1 by kernel_rfl).symm.trans hg4)
  obtain rfl := Option.some.inj ((show Tryz.prog.globalNamed "theorbo/instrument.fifths" = some 0 by kernel_rfl).symm.trans hg5)
  have a2 := topNothingVar hg2 hv2
  have a4 := topNothingVar hg4 hv4
  have a5 := topNothingVar hg5 hv5
  obtain rfl := Option.some.inj ((show (Tryz.prog.globals[5]?).map (·.type) = some 250 by kernel_rfl).symm.trans ht2)
  obtain rfl := Option.some.inj ((show (Tryz.prog.globals[1]?).map (·.type) = some 210 by kernel_rfl).symm.trans ht4)
  obtain rfl := Option.some.inj ((show (Tryz.prog.globals[0]?).map (·.type) = some 210 by kernel_rfl).symm.trans ht5)
  have b2 := topNothingTab (l := [1, 10, 100, 1000, 10000, 100000, 1000000, 10000000, 100000000, 1000000000, 10000000000, 100000000000, 1000000000000, 10000000000000, 100000000000000, 1000000000000000, 10000000000000000, 100000000000000000, 1000000000000000000, 10000000000000000000]) Tryz.underlying250 Tryz.underlying237 (by kernel_rfl) (by kernel_rfl) rfl hd2
  have b4 := topNothingTab (l := [0, 2, 4, 5, 7, 9, 11]) Tryz.underlying210 Tryz.underlying3 (by kernel_rfl) (by kernel_rfl) rfl hd4
  have b5 := topNothingTab (l := [0, 2, 4, -1, 1, 3, 5]) Tryz.underlying210 Tryz.underlying3 (by kernel_rfl) (by kernel_rfl) rfl hd5
  intro p hp
  simp only [Go.Ab.GL, List.mem_cons, List.not_mem_nil, or_false] at hp
  rcases hp with rfl | rfl | rfl
  · rw [a5, b5]; rfl
  · rw [a4, b4]; rfl
  · rw [a2, b2]; rfl

set_option maxRecDepth 100000 in
theorem topNothingLifted (os : Os) (started : os.Started) (H : Type) (enc : TypeId × Value → H) :
    ReturnsInHanded {} Tryz.checked os 3 .any (fun w args => (Rows.topNothingSilentlySpec.pre enc Tryz.prog Tryz.f3 Rows.topNothingSilentlyRow.domain false w args ∧ laidMetH Tryz.prog Rows.topNothingSilentlyRow.laid w) ∧ sizedMet enc Tryz.prog Tryz.f3 (OpenSpec.ofChange Rows.topNothingSilentlySpec) false w args)
      (Rows.topNothingSilentlySpec.post enc Tryz.prog Tryz.f3 false true false false) := by
  refine returnsInHanded_of_change_and (C := Tryz.checked) (X := fun w _ => laidMetH Tryz.prog Rows.topNothingSilentlyRow.laid w) (fun _ _ _ hh h => h.of_heap hh) topNothingOwn started (by kernel_rfl) Tryz.func3
    (ChangeSpec.witness_shaped (enc := enc) (C := Tryz.checked) (os := os) (X := fun w _ => laidMetH Tryz.prog Rows.topNothingSilentlyRow.laid w) false (World.laidAll Tryz.prog os Rows.topNothingSilentlyRow.laid) #[.string ⟨#[]⟩, .int .u8 0] 8 (World.laidAll_os _ _ _)
      (World.shaped_of_ZipB (by kernel_rfl) (by kernel_rfl)) (by kernel_rfl) (by kernel_rfl) (by kernel_rfl)
      (by rw [MakeChecks.laidMetH_plain _ _ _ (by kernel_rfl)]; exact laidMet_laidAll _ (by kernel_rfl) (by kernel_rfl))) ?_
  intro W base args ds gs before hval0 hW hc _ hL _
  have hval : ∀ (j : Nat) t v, Tryz.f3.params[j]? = some t → args[j]? = some v → Value.okWide Tryz.prog W .any base t v := hval0
  have hW' := hW
  obtain ⟨p, q, hA0, hV, rfl, _, _⟩ := hW
  have hA : DataW.TrodAll enc Tryz.prog W 0 (fun _ => true) true Tryz.f3.params.toList args.toList ds p := hA0
  rw [Tryz.params3] at hA hval
  obtain ⟨v0, vs0, d0, ds0, p0, q0, hargs, rfl, rfl, h0, r0⟩ := trodAll_cons hA
  obtain ⟨v1, vs1, d1, ds1, p1, q1, rfl, rfl, rfl, h1, r1⟩ := trodAll_cons r0
  obtain ⟨rfl, rfl, rfl⟩ := trodAll_nil r1
  obtain rfl : args = #[v0, v1] := by cases args; simp_all
  obtain ⟨rfl, rfl⟩ := trodVars_none hV
  have k0 := h0
  have lt0 : ∀ x ∈ p0, x.block < W.heap.size := by obtain ⟨m, hm⟩ := k0; exact DataW.trod_lt m _ _ _ hm
  obtain ⟨a0, e0, s0⟩ := Go.Ab.bridgeV (ti := Go.Ab.V.C.ti) (m := 9) Go.Ab.V.ok.tok (by decide +kernel) (hval 0 9 v0 rfl rfl) h0
  obtain ⟨x0, hx0, _⟩ : ∃ s : List UInt8, [a0] = [.str s] ∧ s.length ≤ maxLen := s0
  cases hx0
  have k1 := h1
  have lt1 : ∀ x ∈ p1, x.block < W.heap.size := by obtain ⟨m, hm⟩ := k1; exact DataW.trod_lt m _ _ _ hm
  obtain ⟨a1, e1, s1⟩ := Go.Ab.bridgeV (ti := Go.Ab.V.C.ti) (m := 9) Go.Ab.V.ok.tok (by decide +kernel) (hval 1 22 v1 rfl rfl) h1
  obtain ⟨x1, hx1, _⟩ : ∃ i : Int, [a1] = [.int .u8 i] ∧ _ ∧ _ := s1
  cases hx1
  clear hA0 hval0
  refine (Go.Ab.law_calls (Go.Ab.V.law_nothing x0 x1) (topNothingTabs hL) (by exact (.cons e0 (.cons e1 .nil)))).mono fun e W' ⟨he, bel⟩ => ?_
  subst he
  exact ⟨_, rfl, _, _, _, [], _, [], hW', trodAll_mk1 (shut_bool Tryz.underlying4 _), (trodAll_cons_mk (Below.trod topNothingLaid (by kernel_rfl) (of_decide_eq_true (by kernel_rfl)) k0 bel lt0) (trodAll_cons_mk (Below.trod topNothingLaid (by kernel_rfl) (of_decide_eq_true (by kernel_rfl)) k1 bel lt1) trodAll_mk0)), rfl, bel.frame _, fun h => by cases h⟩

theorem topNothingRow : Rows.TopNothingSilentlySaid :=
  OpenClaim.holds_of_wide 3 Tryz.f3 rfl rfl rfl rfl rfl rfl rfl ⟨rfl, rfl, rfl, rfl, rfl⟩ rfl rfl rfl rfl rfl (by kernel_rfl) Tryz.func3 (by kernel_rfl)
    (of_decide_eq_true (by kernel_rfl)) (by unfold Func.isWrapper; first | (rw [if_pos (by decide +kernel)]; kernel_rfl) | (rw [if_neg (by decide +kernel)]; exact ⟨rfl, rfl⟩))
    (fun os started H enc _ => topNothingLifted os started H enc)

theorem topNothingSilentlyProved : Rows.TopNothingSilentlyCardSaid :=
  Claim7.holds_tied_plain_at .later [] [.data, .data, .data, .data, .data, .data, .pinned] true (true, "7cb6dac65764cc2d938574f1aa881f101c46e99f3e05fd2df601417993a75078") true topNothingRow (fun _ h => by cases h) (by kernel_rfl) (fun _ h => by cases h) topNothingSilently_row_tie rfl ⟨rfl, rfl⟩ (by kernel_rfl) rfl
    (fun f fn hf hfn => by
      obtain rfl : f = 3 := Option.some.inj ((show Tryz.prog.funcNamed "theorbo/theorbotop.TopNothingSilently" = some 3 by kernel_rfl).symm.trans hf) |>.symm
      obtain rfl : fn = Tryz.f3 := (Option.some.inj (Tryz.func3.symm.trans hfn)).symm
      exact ⟨by kernel_rfl, fun j t ht => by
        rw [Tryz.params3] at ht
        have hm : t ∈ [9, 22] := by simpa using Array.mem_of_getElem? ht
        have hall : ([9, 22].all fun u => !Tryz.prog.wantsStandIn u) = true := by kernel_rfl
        exact (show Tryz.prog.wantsStandIn t = false by simpa using List.all_eq_true.1 hall t hm)⟩)
    (by kernel_rfl)
#print axioms topNothingSilentlyProved
end Go.Proofs.YtohegnfjdfcebaaGreatDoor
