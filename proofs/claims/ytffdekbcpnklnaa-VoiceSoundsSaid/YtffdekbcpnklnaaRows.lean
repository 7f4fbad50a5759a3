/-
  No cell of these rows narrows 'for every input' (looked for: loops, veiled, ifaces, maps, wideKeys, modest, calm, conditions, laid).
  DERIVED. THE GIVEN ROWS OF THIS SEAT. 12 by the template 'for every input the law returns true; each argument reads behind the call as it read before'; 0 by the template 'total and deterministic' (their statements: YtffdekbcpnklnaaTotals.lean).
  GIVEN WITH THE SEED: the statements are not yours to turn. If you find one false, say at which input.
  Laid BY PROGRAM, IN A SANDBOX (cutbox-rows.mjs): the forced cells as the released guide's own fill.sh prints them over the translation 8b9304cf97828620… (all of the seat's roots in one cut). By AI agents, Wed Nov 11 2026. No macro, syntax, notation, axiom, sorry.
-/
import Derived.Test.YtffdekbcpnklnaaChecked
import GoSem.Claim
import GoSem.ClaimJoined
import GoSem.ClaimMapViews
import Derived.JoinedTies
import Derived.KernelRfl
namespace Go.Proofs.Ytffdekbcpnklnaa
/- THE CELL 'sum', in the pinned program and in every row, IS THE sha256 OF THE DUMP (.gsa) THAT YtffdekbcpnklnaaProg.lean LOADS. Nothing in Lean hashes anything: it is a label: what it is worth is what the hold of that sum in a sandbox is worth. -/
noncomputable def Try.pinned : Pinned := { name := "ytffdekbcpnklnaa", sum := "8b9304cf97828620b274b8e178fa52431b4e2c84f4c0202b948cdbce5260dfda", checked := Try.checked }
namespace Rows
def none {H : Type} : Left H := { results := [], args := [] }

/-- 'theorbolaw07.VoiceChecks': WHATEVER THE INPUT: true; the input reads as it did. -/
def voiceChecksSpec : ChangeSpec := { name := "voiceChecks", fn := fun _ => fun
  | [d1, d2] => { results := [.lit (.bool true)], args := [d1, d2] }
  | _ => none }
def voiceChecksRow : OpenClaim := { program := "ytffdekbcpnklnaa", sum := "8b9304cf97828620b274b8e178fa52431b4e2c84f4c0202b948cdbce5260dfda", func := "theorbo/theorbolaw07.VoiceChecks", spec := "voiceChecks", inPlace := ["slices.overlaps[theorbo/voice.way]"], unfollowed := true, recurses := true, plainKeys := false, apart := false }
def VoiceChecksSaid : Prop := voiceChecksRow.holds Try.pinned (OpenSpec.ofChange voiceChecksSpec)

/-- ITS FALSE NEIGHBOUR: 'it returns false'. Refute it at one input. -/
def voiceChecksWrong : ChangeSpec := { name := "voiceChecks", fn := fun _ => fun
  | [d1, d2] => { results := [.lit (.bool false)], args := [d1, d2] }
  | _ => none }
def VoiceChecksWrongFalsely : Prop := voiceChecksRow.holds Try.pinned (OpenSpec.ofChange voiceChecksWrong)

/-- 'theorbolaw07.VoiceParts': WHATEVER THE INPUT: true; the input reads as it did. -/
def voicePartsSpec : ChangeSpec := { name := "voiceParts", fn := fun _ => fun
  | [d1, d2, d3] => { results := [.lit (.bool true)], args := [d1, d2, d3] }
  | _ => none }
def voicePartsRow : OpenClaim := { program := "ytffdekbcpnklnaa", sum := "8b9304cf97828620b274b8e178fa52431b4e2c84f4c0202b948cdbce5260dfda", func := "theorbo/theorbolaw07.VoiceParts", spec := "voiceParts", inPlace := ["slices.overlaps[theorbo/voice.way]"], unfollowed := true, recurses := true, plainKeys := false, apart := false }
def VoicePartsSaid : Prop := voicePartsRow.holds Try.pinned (OpenSpec.ofChange voicePartsSpec)

/-- ITS FALSE NEIGHBOUR: 'it returns false'. Refute it at one input. -/
def voicePartsWrong : ChangeSpec := { name := "voiceParts", fn := fun _ => fun
  | [d1, d2, d3] => { results := [.lit (.bool false)], args := [d1, d2, d3] }
  | _ => none }
def VoicePartsWrongFalsely : Prop := voicePartsRow.holds Try.pinned (OpenSpec.ofChange voicePartsWrong)

/-- 'theorbolaw07.VoiceValid': WHATEVER THE INPUT: true; the input reads as it did. -/
def voiceValidSpec : ChangeSpec := { name := "voiceValid", fn := fun _ => fun
  | [d1, d2] => { results := [.lit (.bool true)], args := [d1, d2] }
  | _ => none }
def voiceValidRow : OpenClaim := { program := "ytffdekbcpnklnaa", sum := "8b9304cf97828620b274b8e178fa52431b4e2c84f4c0202b948cdbce5260dfda", func := "theorbo/theorbolaw07.VoiceValid", spec := "voiceValid", inPlace := ["slices.overlaps[theorbo/voice.way]"], unfollowed := true, recurses := true, plainKeys := false, apart := false }
def VoiceValidSaid : Prop := voiceValidRow.holds Try.pinned (OpenSpec.ofChange voiceValidSpec)

/-- ITS FALSE NEIGHBOUR: 'it returns false'. Refute it at one input. -/
def voiceValidWrong : ChangeSpec := { name := "voiceValid", fn := fun _ => fun
  | [d1, d2] => { results := [.lit (.bool false)], args := [d1, d2] }
  | _ => none }
def VoiceValidWrongFalsely : Prop := voiceValidRow.holds Try.pinned (OpenSpec.ofChange voiceValidWrong)

/-- 'theorbolaw07.VoiceWider': WHATEVER THE INPUT: true; the input reads as it did. -/
def voiceWiderSpec : ChangeSpec := { name := "voiceWider", fn := fun _ => fun
  | [d1, d2, d3] => { results := [.lit (.bool true)], args := [d1, d2, d3] }
  | _ => none }
def voiceWiderRow : OpenClaim := { program := "ytffdekbcpnklnaa", sum := "8b9304cf97828620b274b8e178fa52431b4e2c84f4c0202b948cdbce5260dfda", func := "theorbo/theorbolaw07.VoiceWider", spec := "voiceWider", inPlace := ["slices.overlaps[theorbo/voice.way]"], unfollowed := true, recurses := true, plainKeys := false, apart := false }
def VoiceWiderSaid : Prop := voiceWiderRow.holds Try.pinned (OpenSpec.ofChange voiceWiderSpec)

/-- ITS FALSE NEIGHBOUR: 'it returns false'. Refute it at one input. -/
def voiceWiderWrong : ChangeSpec := { name := "voiceWider", fn := fun _ => fun
  | [d1, d2, d3] => { results := [.lit (.bool false)], args := [d1, d2, d3] }
  | _ => none }
def VoiceWiderWrongFalsely : Prop := voiceWiderRow.holds Try.pinned (OpenSpec.ofChange voiceWiderWrong)

/-- 'theorbolaw07.VoicePrefix': WHATEVER THE INPUT: true; the input reads as it did. -/
def voicePrefixSpec : ChangeSpec := { name := "voicePrefix", fn := fun _ => fun
  | [d1, d2, d3] => { results := [.lit (.bool true)], args := [d1, d2, d3] }
  | _ => none }
def voicePrefixRow : OpenClaim := { program := "ytffdekbcpnklnaa", sum := "8b9304cf97828620b274b8e178fa52431b4e2c84f4c0202b948cdbce5260dfda", func := "theorbo/theorbolaw07.VoicePrefix", spec := "voicePrefix", inPlace := ["slices.overlaps[theorbo/voice.way]"], unfollowed := true, recurses := true, plainKeys := false, apart := false }
def VoicePrefixSaid : Prop := voicePrefixRow.holds Try.pinned (OpenSpec.ofChange voicePrefixSpec)

/-- ITS FALSE NEIGHBOUR: 'it returns false'. Refute it at one input. -/
def voicePrefixWrong : ChangeSpec := { name := "voicePrefix", fn := fun _ => fun
  | [d1, d2, d3] => { results := [.lit (.bool false)], args := [d1, d2, d3] }
  | _ => none }
def VoicePrefixWrongFalsely : Prop := voicePrefixRow.holds Try.pinned (OpenSpec.ofChange voicePrefixWrong)

/-- 'theorbolaw07.VoiceUnsets': WHATEVER THE INPUT: true; the input reads as it did. -/
def voiceUnsetsSpec : ChangeSpec := { name := "voiceUnsets", fn := fun _ => fun
  | [d] => { results := [.lit (.bool true)], args := [d] }
  | _ => none }
def voiceUnsetsRow : OpenClaim := { program := "ytffdekbcpnklnaa", sum := "8b9304cf97828620b274b8e178fa52431b4e2c84f4c0202b948cdbce5260dfda", func := "theorbo/theorbolaw07.VoiceUnsets", spec := "voiceUnsets", inPlace := ["slices.overlaps[theorbo/voice.way]"], unfollowed := true, recurses := true, plainKeys := false, apart := false }
def VoiceUnsetsSaid : Prop := voiceUnsetsRow.holds Try.pinned (OpenSpec.ofChange voiceUnsetsSpec)

/-- ITS FALSE NEIGHBOUR: 'it returns false'. Refute it at one input. -/
def voiceUnsetsWrong : ChangeSpec := { name := "voiceUnsets", fn := fun _ => fun
  | [d] => { results := [.lit (.bool false)], args := [d] }
  | _ => none }
def VoiceUnsetsWrongFalsely : Prop := voiceUnsetsRow.holds Try.pinned (OpenSpec.ofChange voiceUnsetsWrong)

/-- 'theorbolaw07.VoiceSounds': WHATEVER THE INPUT: true; the input reads as it did. -/
def voiceSoundsSpec : ChangeSpec := { name := "voiceSounds", fn := fun _ => fun
  | [d] => { results := [.lit (.bool true)], args := [d] }
  | _ => none }
def voiceSoundsRow : OpenClaim := { program := "ytffdekbcpnklnaa", sum := "8b9304cf97828620b274b8e178fa52431b4e2c84f4c0202b948cdbce5260dfda", func := "theorbo/theorbolaw07.VoiceSounds", spec := "voiceSounds", inPlace := ["slices.overlaps[theorbo/voice.way]"], unfollowed := true, recurses := true, plainKeys := false, apart := false }
def VoiceSoundsSaid : Prop := voiceSoundsRow.holds Try.pinned (OpenSpec.ofChange voiceSoundsSpec)

/-- ITS FALSE NEIGHBOUR: 'it returns false'. Refute it at one input. -/
def voiceSoundsWrong : ChangeSpec := { name := "voiceSounds", fn := fun _ => fun
  | [d] => { results := [.lit (.bool false)], args := [d] }
  | _ => none }
def VoiceSoundsWrongFalsely : Prop := voiceSoundsRow.holds Try.pinned (OpenSpec.ofChange voiceSoundsWrong)

/-- 'theorbolaw07.VoiceSets': WHATEVER THE INPUT: true; the input reads as it did. -/
def voiceSetsSpec : ChangeSpec := { name := "voiceSets", fn := fun _ => fun
  | [d1, d2] => { results := [.lit (.bool true)], args := [d1, d2] }
  | _ => none }
def voiceSetsRow : OpenClaim := { program := "ytffdekbcpnklnaa", sum := "8b9304cf97828620b274b8e178fa52431b4e2c84f4c0202b948cdbce5260dfda", func := "theorbo/theorbolaw07.VoiceSets", spec := "voiceSets", inPlace := ["slices.overlaps[theorbo/voice.way]"], unfollowed := true, recurses := true, plainKeys := false, apart := false }
def VoiceSetsSaid : Prop := voiceSetsRow.holds Try.pinned (OpenSpec.ofChange voiceSetsSpec)

/-- ITS FALSE NEIGHBOUR: 'it returns false'. Refute it at one input. -/
def voiceSetsWrong : ChangeSpec := { name := "voiceSets", fn := fun _ => fun
  | [d1, d2] => { results := [.lit (.bool false)], args := [d1, d2] }
  | _ => none }
def VoiceSetsWrongFalsely : Prop := voiceSetsRow.holds Try.pinned (OpenSpec.ofChange voiceSetsWrong)

/-- 'theorbolaw07.VoiceMeetings': WHATEVER THE INPUT: true; the input reads as it did. -/
def voiceMeetingsSpec : ChangeSpec := { name := "voiceMeetings", fn := fun _ => fun
  | [d1, d2] => { results := [.lit (.bool true)], args := [d1, d2] }
  | _ => none }
def voiceMeetingsRow : OpenClaim := { program := "ytffdekbcpnklnaa", sum := "8b9304cf97828620b274b8e178fa52431b4e2c84f4c0202b948cdbce5260dfda", func := "theorbo/theorbolaw07.VoiceMeetings", spec := "voiceMeetings", inPlace := ["slices.overlaps[theorbo/voice.way]"], unfollowed := true, recurses := true, plainKeys := false, apart := false }
def VoiceMeetingsSaid : Prop := voiceMeetingsRow.holds Try.pinned (OpenSpec.ofChange voiceMeetingsSpec)

/-- ITS FALSE NEIGHBOUR: 'it returns false'. Refute it at one input. -/
def voiceMeetingsWrong : ChangeSpec := { name := "voiceMeetings", fn := fun _ => fun
  | [d1, d2] => { results := [.lit (.bool false)], args := [d1, d2] }
  | _ => none }
def VoiceMeetingsWrongFalsely : Prop := voiceMeetingsRow.holds Try.pinned (OpenSpec.ofChange voiceMeetingsWrong)

/-- 'theorbolaw07.VoiceExchange': WHATEVER THE INPUT: true; the input reads as it did. -/
def voiceExchangeSpec : ChangeSpec := { name := "voiceExchange", fn := fun _ => fun
  | [d1, d2] => { results := [.lit (.bool true)], args := [d1, d2] }
  | _ => none }
def voiceExchangeRow : OpenClaim := { program := "ytffdekbcpnklnaa", sum := "8b9304cf97828620b274b8e178fa52431b4e2c84f4c0202b948cdbce5260dfda", func := "theorbo/theorbolaw07.VoiceExchange", spec := "voiceExchange", inPlace := ["slices.overlaps[theorbo/voice.way]"], unfollowed := true, recurses := true, plainKeys := false, apart := false }
def VoiceExchangeSaid : Prop := voiceExchangeRow.holds Try.pinned (OpenSpec.ofChange voiceExchangeSpec)

/-- ITS FALSE NEIGHBOUR: 'it returns false'. Refute it at one input. -/
def voiceExchangeWrong : ChangeSpec := { name := "voiceExchange", fn := fun _ => fun
  | [d1, d2] => { results := [.lit (.bool false)], args := [d1, d2] }
  | _ => none }
def VoiceExchangeWrongFalsely : Prop := voiceExchangeRow.holds Try.pinned (OpenSpec.ofChange voiceExchangeWrong)

/-- 'theorbolaw07.VoiceSetBack': WHATEVER THE INPUT: true; the input reads as it did. -/
def voiceSetBackSpec : ChangeSpec := { name := "voiceSetBack", fn := fun _ => fun
  | [d1, d2] => { results := [.lit (.bool true)], args := [d1, d2] }
  | _ => none }
def voiceSetBackRow : OpenClaim := { program := "ytffdekbcpnklnaa", sum := "8b9304cf97828620b274b8e178fa52431b4e2c84f4c0202b948cdbce5260dfda", func := "theorbo/theorbolaw07.VoiceSetBack", spec := "voiceSetBack", inPlace := ["slices.overlaps[theorbo/voice.way]"], unfollowed := true, recurses := true, plainKeys := false, apart := false }
def VoiceSetBackSaid : Prop := voiceSetBackRow.holds Try.pinned (OpenSpec.ofChange voiceSetBackSpec)

/-- ITS FALSE NEIGHBOUR: 'it returns false'. Refute it at one input. -/
def voiceSetBackWrong : ChangeSpec := { name := "voiceSetBack", fn := fun _ => fun
  | [d1, d2] => { results := [.lit (.bool false)], args := [d1, d2] }
  | _ => none }
def VoiceSetBackWrongFalsely : Prop := voiceSetBackRow.holds Try.pinned (OpenSpec.ofChange voiceSetBackWrong)

/-- 'theorbolaw07.VoiceParallels': WHATEVER THE INPUT: true; the input reads as it did. -/
def voiceParallelsSpec : ChangeSpec := { name := "voiceParallels", fn := fun _ => fun
  | [d] => { results := [.lit (.bool true)], args := [d] }
  | _ => none }
def voiceParallelsRow : OpenClaim := { program := "ytffdekbcpnklnaa", sum := "8b9304cf97828620b274b8e178fa52431b4e2c84f4c0202b948cdbce5260dfda", func := "theorbo/theorbolaw07.VoiceParallels", spec := "voiceParallels", inPlace := ["slices.overlaps[theorbo/voice.way]"], unfollowed := true, recurses := true, plainKeys := false, apart := false }
def VoiceParallelsSaid : Prop := voiceParallelsRow.holds Try.pinned (OpenSpec.ofChange voiceParallelsSpec)

/-- ITS FALSE NEIGHBOUR: 'it returns false'. Refute it at one input. -/
def voiceParallelsWrong : ChangeSpec := { name := "voiceParallels", fn := fun _ => fun
  | [d] => { results := [.lit (.bool false)], args := [d] }
  | _ => none }
def VoiceParallelsWrongFalsely : Prop := voiceParallelsRow.holds Try.pinned (OpenSpec.ofChange voiceParallelsWrong)

/- THE SECOND FORM. 'bulk': how many values and letters a reading holds, each counted each time it is reached (what is shared counts as often as it is met; a slice's spare places count too). A statement '..UptoSaid' is the law's where the arguments, and the package variables that the reading takes, are together of bulk at most 1048576: NARROWER than '..Said'. Prove '..Said' where nothing that the law and all that it calls make is longer than what came in: it says more and counts as full. Else prove '..UptoSaid'. A law counts once. -/
mutual
def uptoBulk {H : Type} : DataW H → Nat
  | .lit (.string bytes) => bytes.length + 1
  | .lit _ => 1
  | .nil => 1
  | .ptr d => uptoBulk d + 1
  | .slice elems spare => uptoBulkAll elems + uptoBulkAll spare + 1
  | .agg parts => uptoBulkAll parts + 1
  | .iface _ d => uptoBulk d + 1
  | .map entries => uptoBulkEntries entries + 1
  | .held _ => 1
def uptoBulkAll {H : Type} : List (DataW H) → Nat
  | [] => 0
  | d :: r => uptoBulk d + uptoBulkAll r
def uptoBulkEntries {H : Type} : List (Lit × DataW H) → Nat
  | [] => 0
  | x :: r => uptoBulkEntry x + uptoBulkEntries r
def uptoBulkEntry {H : Type} : Lit × DataW H → Nat
  | (.string bytes, d) => bytes.length + uptoBulk d + 1
  | (_, d) => uptoBulk d + 1
 end
def uptoSmall : (H : Type) → List (DataW H) → Bool := fun _ ds => decide (uptoBulkAll ds ≤ 1048576)
def OpenSpec.upto (s : _root_.Go.ChangeSpec) : _root_.Go.OpenSpec := { _root_.Go.OpenSpec.ofChange s with cond := some uptoSmall }

/-- 'theorbolaw07.VoiceChecks', WHERE WHAT IT READS IS OF BULK AT MOST 1048576: true; the input reads as it did. -/
def voiceChecksUptoRow : OpenClaim := { program := "ytffdekbcpnklnaa", sum := "8b9304cf97828620b274b8e178fa52431b4e2c84f4c0202b948cdbce5260dfda", func := "theorbo/theorbolaw07.VoiceChecks", spec := "voiceChecks", inPlace := ["slices.overlaps[theorbo/voice.way]"], unfollowed := true, recurses := true, plainKeys := false, apart := false, narrowed := true }
def VoiceChecksUptoSaid : Prop := voiceChecksUptoRow.holds Try.pinned (OpenSpec.upto voiceChecksSpec)

/-- 'theorbolaw07.VoiceParts', WHERE WHAT IT READS IS OF BULK AT MOST 1048576: true; the input reads as it did. -/
def voicePartsUptoRow : OpenClaim := { program := "ytffdekbcpnklnaa", sum := "8b9304cf97828620b274b8e178fa52431b4e2c84f4c0202b948cdbce5260dfda", func := "theorbo/theorbolaw07.VoiceParts", spec := "voiceParts", inPlace := ["slices.overlaps[theorbo/voice.way]"], unfollowed := true, recurses := true, plainKeys := false, apart := false, narrowed := true }
def VoicePartsUptoSaid : Prop := voicePartsUptoRow.holds Try.pinned (OpenSpec.upto voicePartsSpec)

/-- 'theorbolaw07.VoiceValid', WHERE WHAT IT READS IS OF BULK AT MOST 1048576: true; the input reads as it did. -/
def voiceValidUptoRow : OpenClaim := { program := "ytffdekbcpnklnaa", sum := "8b9304cf97828620b274b8e178fa52431b4e2c84f4c0202b948cdbce5260dfda", func := "theorbo/theorbolaw07.VoiceValid", spec := "voiceValid", inPlace := ["slices.overlaps[theorbo/voice.way]"], unfollowed := true, recurses := true, plainKeys := false, apart := false, narrowed := true }
def VoiceValidUptoSaid : Prop := voiceValidUptoRow.holds Try.pinned (OpenSpec.upto voiceValidSpec)

/-- 'theorbolaw07.VoiceWider', WHERE WHAT IT READS IS OF BULK AT MOST 1048576: true; the input reads as it did. -/
def voiceWiderUptoRow : OpenClaim := { program := "ytffdekbcpnklnaa", sum := "8b9304cf97828620b274b8e178fa52431b4e2c84f4c0202b948cdbce5260dfda", func := "theorbo/theorbolaw07.VoiceWider", spec := "voiceWider", inPlace := ["slices.overlaps[theorbo/voice.way]"], unfollowed := true, recurses := true, plainKeys := false, apart := false, narrowed := true }
def VoiceWiderUptoSaid : Prop := voiceWiderUptoRow.holds Try.pinned (OpenSpec.upto voiceWiderSpec)

/-- 'theorbolaw07.VoicePrefix', WHERE WHAT IT READS IS OF BULK AT MOST 1048576: true; the input reads as it did. -/
def voicePrefixUptoRow : OpenClaim := { program := "ytffdekbcpnklnaa", sum := "8b9304cf97828620b274b8e178fa52431b4e2c84f4c0202b948cdbce5260dfda", func := "theorbo/theorbolaw07.VoicePrefix", spec := "voicePrefix", inPlace := ["slices.overlaps[theorbo/voice.way]"], unfollowed := true, recurses := true, plainKeys := false, apart := false, narrowed := true }
def VoicePrefixUptoSaid : Prop := voicePrefixUptoRow.holds Try.pinned (OpenSpec.upto voicePrefixSpec)

/-- 'theorbolaw07.VoiceUnsets', WHERE WHAT IT READS IS OF BULK AT MOST 1048576: true; the input reads as it did. -/
def voiceUnsetsUptoRow : OpenClaim := { program := "ytffdekbcpnklnaa", sum := "8b9304cf97828620b274b8e178fa52431b4e2c84f4c0202b948cdbce5260dfda", func := "theorbo/theorbolaw07.VoiceUnsets", spec := "voiceUnsets", inPlace := ["slices.overlaps[theorbo/voice.way]"], unfollowed := true, recurses := true, plainKeys := false, apart := false, narrowed := true }
def VoiceUnsetsUptoSaid : Prop := voiceUnsetsUptoRow.holds Try.pinned (OpenSpec.upto voiceUnsetsSpec)

/-- 'theorbolaw07.VoiceSounds', WHERE WHAT IT READS IS OF BULK AT MOST 1048576: true; the input reads as it did. -/
def voiceSoundsUptoRow : OpenClaim := { program := "ytffdekbcpnklnaa", sum := "8b9304cf97828620b274b8e178fa52431b4e2c84f4c0202b948cdbce5260dfda", func := "theorbo/theorbolaw07.VoiceSounds", spec := "voiceSounds", inPlace := ["slices.overlaps[theorbo/voice.way]"], unfollowed := true, recurses := true, plainKeys := false, apart := false, narrowed := true }
def VoiceSoundsUptoSaid : Prop := voiceSoundsUptoRow.holds Try.pinned (OpenSpec.upto voiceSoundsSpec)

/-- 'theorbolaw07.VoiceSets', WHERE WHAT IT READS IS OF BULK AT MOST 1048576: true; the input reads as it did. -/
def voiceSetsUptoRow : OpenClaim := { program := "ytffdekbcpnklnaa", sum := "8b9304cf97828620b274b8e178fa52431b4e2c84f4c0202b948cdbce5260dfda", func := "theorbo/theorbolaw07.VoiceSets", spec := "voiceSets", inPlace := ["slices.overlaps[theorbo/voice.way]"], unfollowed := true, recurses := true, plainKeys := false, apart := false, narrowed := true }
def VoiceSetsUptoSaid : Prop := voiceSetsUptoRow.holds Try.pinned (OpenSpec.upto voiceSetsSpec)

/-- 'theorbolaw07.VoiceMeetings', WHERE WHAT IT READS IS OF BULK AT MOST 1048576: true; the input reads as it did. -/
def voiceMeetingsUptoRow : OpenClaim := { program := "ytffdekbcpnklnaa", sum := "8b9304cf97828620b274b8e178fa52431b4e2c84f4c0202b948cdbce5260dfda", func := "theorbo/theorbolaw07.VoiceMeetings", spec := "voiceMeetings", inPlace := ["slices.overlaps[theorbo/voice.way]"], unfollowed := true, recurses := true, plainKeys := false, apart := false, narrowed := true }
def VoiceMeetingsUptoSaid : Prop := voiceMeetingsUptoRow.holds Try.pinned (OpenSpec.upto voiceMeetingsSpec)

/-- 'theorbolaw07.VoiceExchange', WHERE WHAT IT READS IS OF BULK AT MOST 1048576: true; the input reads as it did. -/
def voiceExchangeUptoRow : OpenClaim := { program := "ytffdekbcpnklnaa", sum := "8b9304cf97828620b274b8e178fa52431b4e2c84f4c0202b948cdbce5260dfda", func := "theorbo/theorbolaw07.VoiceExchange", spec := "voiceExchange", inPlace := ["slices.overlaps[theorbo/voice.way]"], unfollowed := true, recurses := true, plainKeys := false, apart := false, narrowed := true }
def VoiceExchangeUptoSaid : Prop := voiceExchangeUptoRow.holds Try.pinned (OpenSpec.upto voiceExchangeSpec)

/-- 'theorbolaw07.VoiceSetBack', WHERE WHAT IT READS IS OF BULK AT MOST 1048576: true; the input reads as it did. -/
def voiceSetBackUptoRow : OpenClaim := { program := "ytffdekbcpnklnaa", sum := "8b9304cf97828620b274b8e178fa52431b4e2c84f4c0202b948cdbce5260dfda", func := "theorbo/theorbolaw07.VoiceSetBack", spec := "voiceSetBack", inPlace := ["slices.overlaps[theorbo/voice.way]"], unfollowed := true, recurses := true, plainKeys := false, apart := false, narrowed := true }
def VoiceSetBackUptoSaid : Prop := voiceSetBackUptoRow.holds Try.pinned (OpenSpec.upto voiceSetBackSpec)

/-- 'theorbolaw07.VoiceParallels', WHERE WHAT IT READS IS OF BULK AT MOST 1048576: true; the input reads as it did. -/
def voiceParallelsUptoRow : OpenClaim := { program := "ytffdekbcpnklnaa", sum := "8b9304cf97828620b274b8e178fa52431b4e2c84f4c0202b948cdbce5260dfda", func := "theorbo/theorbolaw07.VoiceParallels", spec := "voiceParallels", inPlace := ["slices.overlaps[theorbo/voice.way]"], unfollowed := true, recurses := true, plainKeys := false, apart := false, narrowed := true }
def VoiceParallelsUptoSaid : Prop := voiceParallelsUptoRow.holds Try.pinned (OpenSpec.upto voiceParallelsSpec)

end Rows
end Go.Proofs.Ytffdekbcpnklnaa
