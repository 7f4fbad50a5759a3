/-
  No cell of these rows narrows 'for every input' (looked for: loops, veiled, ifaces, maps, wideKeys, modest, calm, conditions, laid).
  DERIVED. THE GIVEN ROWS OF THIS SEAT. 7 by the template 'for every input the law returns true; each argument reads behind the call as it read before'; 0 by the template 'total and deterministic' (their statements: YthdhhhgjdegafaaTotals.lean).
  GIVEN WITH THE SEED: the statements are not yours to turn. If you find one false, say at which input.
  Laid BY PROGRAM, IN A SANDBOX (cutbox-rows.mjs): the forced cells as the released guide's own fill.sh prints them over the translation 6f06ac098035e38b… (all of the seat's roots in one cut). By AI agents, Wed Nov 11 2026. No macro, syntax, notation, axiom, sorry.
-/
import Derived.Test.YthdhhhgjdegafaaChecked
import GoSem.Claim
import GoSem.ClaimJoined
import GoSem.ClaimMapViews
import Derived.JoinedTies
import Derived.KernelRfl
namespace Go.Proofs.Ythdhhhgjdegafaa
/- THE CELL 'sum', in the pinned program and in every row, IS THE sha256 OF THE DUMP (.gsa) THAT YthdhhhgjdegafaaProg.lean LOADS. Nothing in Lean hashes anything: it is a label: what it is worth is what the hold of that sum in a sandbox is worth. -/
noncomputable def Try.pinned : Pinned := { name := "ythdhhhgjdegafaa", sum := "6f06ac098035e38becbeb2545b38376a278b5643d94dffc7364b3d3eeed87b31", checked := Try.checked }
namespace Rows
def none {H : Type} : Left H := { results := [], args := [] }

/-- 'theorbolaw07.VoiceLists': WHATEVER THE INPUT: true; the input reads as it did. -/
def voiceListsSpec : ChangeSpec := { name := "voiceLists", fn := fun _ => fun
  | [d1, d2] => { results := [.lit (.bool true)], args := [d1, d2] }
  | _ => none }
def voiceListsRow : OpenClaim := { program := "ythdhhhgjdegafaa", sum := "6f06ac098035e38becbeb2545b38376a278b5643d94dffc7364b3d3eeed87b31", func := "theorbo/theorbolaw07.VoiceLists", spec := "voiceLists", inPlace := ["slices.overlaps[theorbo/voice.way]"], unfollowed := true, recurses := true, plainKeys := false, apart := false }
def VoiceListsSaid : Prop := voiceListsRow.holds Try.pinned (OpenSpec.ofChange voiceListsSpec)

/-- ITS FALSE NEIGHBOUR: 'it returns false'. Refute it at one input. -/
def voiceListsWrong : ChangeSpec := { name := "voiceLists", fn := fun _ => fun
  | [d1, d2] => { results := [.lit (.bool false)], args := [d1, d2] }
  | _ => none }
def VoiceListsWrongFalsely : Prop := voiceListsRow.holds Try.pinned (OpenSpec.ofChange voiceListsWrong)

/-- 'theorbolaw07.VoiceListed': WHATEVER THE INPUT: true; the input reads as it did. -/
def voiceListedSpec : ChangeSpec := { name := "voiceListed", fn := fun _ => fun
  | [d1, d2, d3] => { results := [.lit (.bool true)], args := [d1, d2, d3] }
  | _ => none }
def voiceListedRow : OpenClaim := { program := "ythdhhhgjdegafaa", sum := "6f06ac098035e38becbeb2545b38376a278b5643d94dffc7364b3d3eeed87b31", func := "theorbo/theorbolaw07.VoiceListed", spec := "voiceListed", inPlace := ["slices.overlaps[theorbo/voice.way]"], unfollowed := true, recurses := true, plainKeys := false, apart := false }
def VoiceListedSaid : Prop := voiceListedRow.holds Try.pinned (OpenSpec.ofChange voiceListedSpec)

/-- ITS FALSE NEIGHBOUR: 'it returns false'. Refute it at one input. -/
def voiceListedWrong : ChangeSpec := { name := "voiceListed", fn := fun _ => fun
  | [d1, d2, d3] => { results := [.lit (.bool false)], args := [d1, d2, d3] }
  | _ => none }
def VoiceListedWrongFalsely : Prop := voiceListedRow.holds Try.pinned (OpenSpec.ofChange voiceListedWrong)

/-- 'theorbolaw07.VoiceRaised': WHATEVER THE INPUT: true; the input reads as it did. -/
def voiceRaisedSpec : ChangeSpec := { name := "voiceRaised", fn := fun _ => fun
  | [d1, d2, d3] => { results := [.lit (.bool true)], args := [d1, d2, d3] }
  | _ => none }
def voiceRaisedRow : OpenClaim := { program := "ythdhhhgjdegafaa", sum := "6f06ac098035e38becbeb2545b38376a278b5643d94dffc7364b3d3eeed87b31", func := "theorbo/theorbolaw07.VoiceRaised", spec := "voiceRaised", inPlace := ["slices.overlaps[theorbo/voice.way]"], unfollowed := true, recurses := true, plainKeys := false, apart := false }
def VoiceRaisedSaid : Prop := voiceRaisedRow.holds Try.pinned (OpenSpec.ofChange voiceRaisedSpec)

/-- ITS FALSE NEIGHBOUR: 'it returns false'. Refute it at one input. -/
def voiceRaisedWrong : ChangeSpec := { name := "voiceRaised", fn := fun _ => fun
  | [d1, d2, d3] => { results := [.lit (.bool false)], args := [d1, d2, d3] }
  | _ => none }
def VoiceRaisedWrongFalsely : Prop := voiceRaisedRow.holds Try.pinned (OpenSpec.ofChange voiceRaisedWrong)

/-- 'theorbolaw07.VoiceCounts': WHATEVER THE INPUT: true; the input reads as it did. -/
def voiceCountsSpec : ChangeSpec := { name := "voiceCounts", fn := fun _ => fun
  | [d] => { results := [.lit (.bool true)], args := [d] }
  | _ => none }
def voiceCountsRow : OpenClaim := { program := "ythdhhhgjdegafaa", sum := "6f06ac098035e38becbeb2545b38376a278b5643d94dffc7364b3d3eeed87b31", func := "theorbo/theorbolaw07.VoiceCounts", spec := "voiceCounts", inPlace := ["slices.overlaps[theorbo/voice.way]"], unfollowed := true, recurses := true, plainKeys := false, apart := false }
def VoiceCountsSaid : Prop := voiceCountsRow.holds Try.pinned (OpenSpec.ofChange voiceCountsSpec)

/-- ITS FALSE NEIGHBOUR: 'it returns false'. Refute it at one input. -/
def voiceCountsWrong : ChangeSpec := { name := "voiceCounts", fn := fun _ => fun
  | [d] => { results := [.lit (.bool false)], args := [d] }
  | _ => none }
def VoiceCountsWrongFalsely : Prop := voiceCountsRow.holds Try.pinned (OpenSpec.ofChange voiceCountsWrong)

/-- 'theorbolaw07.VoiceFewest': WHATEVER THE INPUT: true; the input reads as it did. -/
def voiceFewestSpec : ChangeSpec := { name := "voiceFewest", fn := fun _ => fun
  | [d] => { results := [.lit (.bool true)], args := [d] }
  | _ => none }
def voiceFewestRow : OpenClaim := { program := "ythdhhhgjdegafaa", sum := "6f06ac098035e38becbeb2545b38376a278b5643d94dffc7364b3d3eeed87b31", func := "theorbo/theorbolaw07.VoiceFewest", spec := "voiceFewest", inPlace := ["slices.overlaps[theorbo/voice.way]"], unfollowed := true, recurses := true, plainKeys := false, apart := false }
def VoiceFewestSaid : Prop := voiceFewestRow.holds Try.pinned (OpenSpec.ofChange voiceFewestSpec)

/-- ITS FALSE NEIGHBOUR: 'it returns false'. Refute it at one input. -/
def voiceFewestWrong : ChangeSpec := { name := "voiceFewest", fn := fun _ => fun
  | [d] => { results := [.lit (.bool false)], args := [d] }
  | _ => none }
def VoiceFewestWrongFalsely : Prop := voiceFewestRow.holds Try.pinned (OpenSpec.ofChange voiceFewestWrong)

/-- 'theorbolaw07.VoiceFewestDo': WHATEVER THE INPUT: true; the input reads as it did. -/
def voiceFewestDoSpec : ChangeSpec := { name := "voiceFewestDo", fn := fun _ => fun
  | [d1, d2] => { results := [.lit (.bool true)], args := [d1, d2] }
  | _ => none }
def voiceFewestDoRow : OpenClaim := { program := "ythdhhhgjdegafaa", sum := "6f06ac098035e38becbeb2545b38376a278b5643d94dffc7364b3d3eeed87b31", func := "theorbo/theorbolaw07.VoiceFewestDo", spec := "voiceFewestDo", inPlace := ["slices.overlaps[theorbo/voice.way]"], unfollowed := true, recurses := true, plainKeys := false, apart := false }
def VoiceFewestDoSaid : Prop := voiceFewestDoRow.holds Try.pinned (OpenSpec.ofChange voiceFewestDoSpec)

/-- ITS FALSE NEIGHBOUR: 'it returns false'. Refute it at one input. -/
def voiceFewestDoWrong : ChangeSpec := { name := "voiceFewestDo", fn := fun _ => fun
  | [d1, d2] => { results := [.lit (.bool false)], args := [d1, d2] }
  | _ => none }
def VoiceFewestDoWrongFalsely : Prop := voiceFewestDoRow.holds Try.pinned (OpenSpec.ofChange voiceFewestDoWrong)

/-- 'theorbolaw07.VoiceTablature': WHATEVER THE INPUT: true; the input reads as it did. -/
def voiceTablatureSpec : ChangeSpec := { name := "voiceTablature", fn := fun _ => fun
  | [d1, d2, d3] => { results := [.lit (.bool true)], args := [d1, d2, d3] }
  | _ => none }
def voiceTablatureRow : OpenClaim := { program := "ythdhhhgjdegafaa", sum := "6f06ac098035e38becbeb2545b38376a278b5643d94dffc7364b3d3eeed87b31", func := "theorbo/theorbolaw07.VoiceTablature", spec := "voiceTablature", inPlace := ["slices.overlaps[theorbo/voice.way]"], unfollowed := true, recurses := true, plainKeys := false, apart := false }
def VoiceTablatureSaid : Prop := voiceTablatureRow.holds Try.pinned (OpenSpec.ofChange voiceTablatureSpec)

/-- ITS FALSE NEIGHBOUR: 'it returns false'. Refute it at one input. -/
def voiceTablatureWrong : ChangeSpec := { name := "voiceTablature", fn := fun _ => fun
  | [d1, d2, d3] => { results := [.lit (.bool false)], args := [d1, d2, d3] }
  | _ => none }
def VoiceTablatureWrongFalsely : Prop := voiceTablatureRow.holds Try.pinned (OpenSpec.ofChange voiceTablatureWrong)

/- THE SECOND FORM. 'bulk': how many values and letters a reading holds, each counted each time it is reached (what is shared counts as often as it is met; a slice's spare places count too). A statement '..UptoSaid' is the law's where the arguments, and the package variables that the reading takes, are together of bulk at most 1048576: NARROWER than '..Said'. Prove '..Said' where nothing that the law and all that it calls make is longer than what came in: it says more and counts as full. Else prove '..UptoSaid'. A law counts once. -/
mutual
def uptoBulk {H : Type} : DataW H → Nat
  | .lit (.string bytes) => bytes.length + 1
  | .lit _ => 1
  | .nil => 1
  | .ptr d => uptoBulk d + 1
  | .slice elems spare => uptoBulkAll elems + uptoBulkAll spare + 1
  | .agg parts => uptoBulkAll parts + 1
  | .iface _ d => uptoBulk d + 1
  | .map entries => uptoBulkEntries entries + 1
  | .held _ => 1
def uptoBulkAll {H : Type} : List (DataW H) → Nat
  | [] => 0
  | d :: r => uptoBulk d + uptoBulkAll r
def uptoBulkEntries {H : Type} : List (Lit × DataW H) → Nat
  | [] => 0
  | x :: r => uptoBulkEntry x + uptoBulkEntries r
def uptoBulkEntry {H : Type} : Lit × DataW H → Nat
  | (.string bytes, d) => bytes.length + uptoBulk d + 1
  | (_, d) => uptoBulk d + 1
 end
def uptoSmall : (H : Type) → List (DataW H) → Bool := fun _ ds => decide (uptoBulkAll ds ≤ 1048576)
def OpenSpec.upto (s : _root_.Go.ChangeSpec) : _root_.Go.OpenSpec := { _root_.Go.OpenSpec.ofChange s with cond := some uptoSmall }

/-- 'theorbolaw07.VoiceLists', WHERE WHAT IT READS IS OF BULK AT MOST 1048576: true; the input reads as it did. -/
def voiceListsUptoRow : OpenClaim := { program := "ythdhhhgjdegafaa", sum := "6f06ac098035e38becbeb2545b38376a278b5643d94dffc7364b3d3eeed87b31", func := "theorbo/theorbolaw07.VoiceLists", spec := "voiceLists", inPlace := ["slices.overlaps[theorbo/voice.way]"], unfollowed := true, recurses := true, plainKeys := false, apart := false, narrowed := true }
def VoiceListsUptoSaid : Prop := voiceListsUptoRow.holds Try.pinned (OpenSpec.upto voiceListsSpec)

/-- 'theorbolaw07.VoiceListed', WHERE WHAT IT READS IS OF BULK AT MOST 1048576: true; the input reads as it did. -/
def voiceListedUptoRow : OpenClaim := { program := "ythdhhhgjdegafaa", sum := "6f06ac098035e38becbeb2545b38376a278b5643d94dffc7364b3d3eeed87b31", func := "theorbo/theorbolaw07.VoiceListed", spec := "voiceListed", inPlace := ["slices.overlaps[theorbo/voice.way]"], unfollowed := true, recurses := true, plainKeys := false, apart := false, narrowed := true }
def VoiceListedUptoSaid : Prop := voiceListedUptoRow.holds Try.pinned (OpenSpec.upto voiceListedSpec)

/-- 'theorbolaw07.VoiceRaised', WHERE WHAT IT READS IS OF BULK AT MOST 1048576: true; the input reads as it did. -/
def voiceRaisedUptoRow : OpenClaim := { program := "ythdhhhgjdegafaa", sum := "6f06ac098035e38becbeb2545b38376a278b5643d94dffc7364b3d3eeed87b31", func := "theorbo/theorbolaw07.VoiceRaised", spec := "voiceRaised", inPlace := ["slices.overlaps[theorbo/voice.way]"], unfollowed := true, recurses := true, plainKeys := false, apart := false, narrowed := true }
def VoiceRaisedUptoSaid : Prop := voiceRaisedUptoRow.holds Try.pinned (OpenSpec.upto voiceRaisedSpec)

/-- 'theorbolaw07.VoiceCounts', WHERE WHAT IT READS IS OF BULK AT MOST 1048576: true; the input reads as it did. -/
def voiceCountsUptoRow : OpenClaim := { program := "ythdhhhgjdegafaa", sum := "6f06ac098035e38becbeb2545b38376a278b5643d94dffc7364b3d3eeed87b31", func := "theorbo/theorbolaw07.VoiceCounts", spec := "voiceCounts", inPlace := ["slices.overlaps[theorbo/voice.way]"], unfollowed := true, recurses := true, plainKeys := false, apart := false, narrowed := true }
def VoiceCountsUptoSaid : Prop := voiceCountsUptoRow.holds Try.pinned (OpenSpec.upto voiceCountsSpec)

/-- 'theorbolaw07.VoiceFewest', WHERE WHAT IT READS IS OF BULK AT MOST 1048576: true; the input reads as it did. -/
def voiceFewestUptoRow : OpenClaim := { program := "ythdhhhgjdegafaa", sum := "6f06ac098035e38becbeb2545b38376a278b5643d94dffc7364b3d3eeed87b31", func := "theorbo/theorbolaw07.VoiceFewest", spec := "voiceFewest", inPlace := ["slices.overlaps[theorbo/voice.way]"], unfollowed := true, recurses := true, plainKeys := false, apart := false, narrowed := true }
def VoiceFewestUptoSaid : Prop := voiceFewestUptoRow.holds Try.pinned (OpenSpec.upto voiceFewestSpec)

/-- 'theorbolaw07.VoiceFewestDo', WHERE WHAT IT READS IS OF BULK AT MOST 1048576: true; the input reads as it did. -/
def voiceFewestDoUptoRow : OpenClaim := { program := "ythdhhhgjdegafaa", sum := "6f06ac098035e38becbeb2545b38376a278b5643d94dffc7364b3d3eeed87b31", func := "theorbo/theorbolaw07.VoiceFewestDo", spec := "voiceFewestDo", inPlace := ["slices.overlaps[theorbo/voice.way]"], unfollowed := true, recurses := true, plainKeys := false, apart := false, narrowed := true }
def VoiceFewestDoUptoSaid : Prop := voiceFewestDoUptoRow.holds Try.pinned (OpenSpec.upto voiceFewestDoSpec)

/-- 'theorbolaw07.VoiceTablature', WHERE WHAT IT READS IS OF BULK AT MOST 1048576: true; the input reads as it did. -/
def voiceTablatureUptoRow : OpenClaim := { program := "ythdhhhgjdegafaa", sum := "6f06ac098035e38becbeb2545b38376a278b5643d94dffc7364b3d3eeed87b31", func := "theorbo/theorbolaw07.VoiceTablature", spec := "voiceTablature", inPlace := ["slices.overlaps[theorbo/voice.way]"], unfollowed := true, recurses := true, plainKeys := false, apart := false, narrowed := true }
def VoiceTablatureUptoSaid : Prop := voiceTablatureUptoRow.holds Try.pinned (OpenSpec.upto voiceTablatureSpec)

end Rows
end Go.Proofs.Ythdhhhgjdegafaa
