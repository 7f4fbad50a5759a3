/-
  No cell of these rows narrows 'for every input' (looked for: loops, veiled, ifaces, maps, wideKeys, modest, calm, conditions, laid).
  DERIVED. THE GIVEN ROWS OF THIS SEAT. 12 by the template 'for every input the law returns true; each argument reads behind the call as it read before'; 0 by the template 'total and deterministic' (their statements: YtchkiolagohnlaaTotals.lean).
  GIVEN WITH THE SEED: the statements are not yours to turn. If you find one false, say at which input.
  Laid BY PROGRAM, IN A SANDBOX (cutbox-rows.mjs): the forced cells as the released guide's own fill.sh prints them over the translation e43968d13da9f7a4… (all of the seat's roots in one cut). By AI agents, Wed Nov 11 2026. No macro, syntax, notation, axiom, sorry.
-/
import Derived.Test.YtchkiolagohnlaaChecked
import GoSem.Claim
import GoSem.ClaimJoined
import GoSem.ClaimMapViews
import Derived.JoinedTies
import Derived.KernelRfl
namespace Go.Proofs.Ytchkiolagohnlaa
/- THE CELL 'sum', in the pinned program and in every row, IS THE sha256 OF THE DUMP (.gsa) THAT YtchkiolagohnlaaProg.lean LOADS. Nothing in Lean hashes anything: it is a label: what it is worth is what the hold of that sum in a sandbox is worth. -/
noncomputable def Try.pinned : Pinned := { name := "ytchkiolagohnlaa", sum := "e43968d13da9f7a4ec5715264ad06dd9ab8bb7d1d4f2c35e223c8344c0cbc84b", checked := Try.checked }
namespace Rows
def none {H : Type} : Left H := { results := [], args := [] }

/-- 'theorbolaw05.SoundNotes': WHATEVER THE INPUT: true; the input reads as it did. -/
def soundNotesSpec : ChangeSpec := { name := "soundNotes", fn := fun _ => fun
  | [d] => { results := [.lit (.bool true)], args := [d] }
  | _ => none }
def soundNotesRow : OpenClaim := { program := "ytchkiolagohnlaa", sum := "e43968d13da9f7a4ec5715264ad06dd9ab8bb7d1d4f2c35e223c8344c0cbc84b", func := "theorbo/theorbolaw05.SoundNotes", spec := "soundNotes", unfollowed := true, recurses := true, apart := false }
def SoundNotesSaid : Prop := soundNotesRow.holds Try.pinned (OpenSpec.ofChange soundNotesSpec)

/-- ITS FALSE NEIGHBOUR: 'it returns false'. Refute it at one input. -/
def soundNotesWrong : ChangeSpec := { name := "soundNotes", fn := fun _ => fun
  | [d] => { results := [.lit (.bool false)], args := [d] }
  | _ => none }
def SoundNotesWrongFalsely : Prop := soundNotesRow.holds Try.pinned (OpenSpec.ofChange soundNotesWrong)

/-- 'theorbolaw05.SoundAt': WHATEVER THE INPUT: true; the input reads as it did. -/
def soundAtSpec : ChangeSpec := { name := "soundAt", fn := fun _ => fun
  | [d1, d2] => { results := [.lit (.bool true)], args := [d1, d2] }
  | _ => none }
def soundAtRow : OpenClaim := { program := "ytchkiolagohnlaa", sum := "e43968d13da9f7a4ec5715264ad06dd9ab8bb7d1d4f2c35e223c8344c0cbc84b", func := "theorbo/theorbolaw05.SoundAt", spec := "soundAt", unfollowed := true, recurses := true, apart := false }
def SoundAtSaid : Prop := soundAtRow.holds Try.pinned (OpenSpec.ofChange soundAtSpec)

/-- ITS FALSE NEIGHBOUR: 'it returns false'. Refute it at one input. -/
def soundAtWrong : ChangeSpec := { name := "soundAt", fn := fun _ => fun
  | [d1, d2] => { results := [.lit (.bool false)], args := [d1, d2] }
  | _ => none }
def SoundAtWrongFalsely : Prop := soundAtRow.holds Try.pinned (OpenSpec.ofChange soundAtWrong)

/-- 'theorbolaw05.SoundConcords': WHATEVER THE INPUT: true; the input reads as it did. -/
def soundConcordsSpec : ChangeSpec := { name := "soundConcords", fn := fun _ => fun
  | [d] => { results := [.lit (.bool true)], args := [d] }
  | _ => none }
def soundConcordsRow : OpenClaim := { program := "ytchkiolagohnlaa", sum := "e43968d13da9f7a4ec5715264ad06dd9ab8bb7d1d4f2c35e223c8344c0cbc84b", func := "theorbo/theorbolaw05.SoundConcords", spec := "soundConcords", unfollowed := true, recurses := true, apart := false }
def SoundConcordsSaid : Prop := soundConcordsRow.holds Try.pinned (OpenSpec.ofChange soundConcordsSpec)

/-- ITS FALSE NEIGHBOUR: 'it returns false'. Refute it at one input. -/
def soundConcordsWrong : ChangeSpec := { name := "soundConcords", fn := fun _ => fun
  | [d] => { results := [.lit (.bool false)], args := [d] }
  | _ => none }
def SoundConcordsWrongFalsely : Prop := soundConcordsRow.holds Try.pinned (OpenSpec.ofChange soundConcordsWrong)

/-- 'theorbolaw05.SoundConcordsMoved': WHATEVER THE INPUT: true; the input reads as it did. -/
def soundConcordsMovedSpec : ChangeSpec := { name := "soundConcordsMoved", fn := fun _ => fun
  | [d1, d2, d3] => { results := [.lit (.bool true)], args := [d1, d2, d3] }
  | _ => none }
def soundConcordsMovedRow : OpenClaim := { program := "ytchkiolagohnlaa", sum := "e43968d13da9f7a4ec5715264ad06dd9ab8bb7d1d4f2c35e223c8344c0cbc84b", func := "theorbo/theorbolaw05.SoundConcordsMoved", spec := "soundConcordsMoved", unfollowed := true, recurses := true, apart := false }
def SoundConcordsMovedSaid : Prop := soundConcordsMovedRow.holds Try.pinned (OpenSpec.ofChange soundConcordsMovedSpec)

/-- ITS FALSE NEIGHBOUR: 'it returns false'. Refute it at one input. -/
def soundConcordsMovedWrong : ChangeSpec := { name := "soundConcordsMoved", fn := fun _ => fun
  | [d1, d2, d3] => { results := [.lit (.bool false)], args := [d1, d2, d3] }
  | _ => none }
def SoundConcordsMovedWrongFalsely : Prop := soundConcordsMovedRow.holds Try.pinned (OpenSpec.ofChange soundConcordsMovedWrong)

/-- 'theorbolaw05.SoundPresses': WHATEVER THE INPUT: true; the input reads as it did. -/
def soundPressesSpec : ChangeSpec := { name := "soundPresses", fn := fun _ => fun
  | [d] => { results := [.lit (.bool true)], args := [d] }
  | _ => none }
def soundPressesRow : OpenClaim := { program := "ytchkiolagohnlaa", sum := "e43968d13da9f7a4ec5715264ad06dd9ab8bb7d1d4f2c35e223c8344c0cbc84b", func := "theorbo/theorbolaw05.SoundPresses", spec := "soundPresses", unfollowed := true, recurses := true, apart := false }
def SoundPressesSaid : Prop := soundPressesRow.holds Try.pinned (OpenSpec.ofChange soundPressesSpec)

/-- ITS FALSE NEIGHBOUR: 'it returns false'. Refute it at one input. -/
def soundPressesWrong : ChangeSpec := { name := "soundPresses", fn := fun _ => fun
  | [d] => { results := [.lit (.bool false)], args := [d] }
  | _ => none }
def SoundPressesWrongFalsely : Prop := soundPressesRow.holds Try.pinned (OpenSpec.ofChange soundPressesWrong)

/-- 'theorbolaw05.SoundLines': WHATEVER THE INPUT: true; the input reads as it did. -/
def soundLinesSpec : ChangeSpec := { name := "soundLines", fn := fun _ => fun
  | [d] => { results := [.lit (.bool true)], args := [d] }
  | _ => none }
def soundLinesRow : OpenClaim := { program := "ytchkiolagohnlaa", sum := "e43968d13da9f7a4ec5715264ad06dd9ab8bb7d1d4f2c35e223c8344c0cbc84b", func := "theorbo/theorbolaw05.SoundLines", spec := "soundLines", unfollowed := true, recurses := true, apart := false }
def SoundLinesSaid : Prop := soundLinesRow.holds Try.pinned (OpenSpec.ofChange soundLinesSpec)

/-- ITS FALSE NEIGHBOUR: 'it returns false'. Refute it at one input. -/
def soundLinesWrong : ChangeSpec := { name := "soundLines", fn := fun _ => fun
  | [d] => { results := [.lit (.bool false)], args := [d] }
  | _ => none }
def SoundLinesWrongFalsely : Prop := soundLinesRow.holds Try.pinned (OpenSpec.ofChange soundLinesWrong)

/-- 'theorbolaw05.SoundApart': WHATEVER THE INPUT: true; the input reads as it did. -/
def soundApartSpec : ChangeSpec := { name := "soundApart", fn := fun _ => fun
  | [d] => { results := [.lit (.bool true)], args := [d] }
  | _ => none }
def soundApartRow : OpenClaim := { program := "ytchkiolagohnlaa", sum := "e43968d13da9f7a4ec5715264ad06dd9ab8bb7d1d4f2c35e223c8344c0cbc84b", func := "theorbo/theorbolaw05.SoundApart", spec := "soundApart", unfollowed := true, recurses := true, apart := false }
def SoundApartSaid : Prop := soundApartRow.holds Try.pinned (OpenSpec.ofChange soundApartSpec)

/-- ITS FALSE NEIGHBOUR: 'it returns false'. Refute it at one input. -/
def soundApartWrong : ChangeSpec := { name := "soundApart", fn := fun _ => fun
  | [d] => { results := [.lit (.bool false)], args := [d] }
  | _ => none }
def SoundApartWrongFalsely : Prop := soundApartRow.holds Try.pinned (OpenSpec.ofChange soundApartWrong)

/-- 'theorbolaw05.SoundRinging': WHATEVER THE INPUT: true; the input reads as it did. -/
def soundRingingSpec : ChangeSpec := { name := "soundRinging", fn := fun _ => fun
  | [d1, d2] => { results := [.lit (.bool true)], args := [d1, d2] }
  | _ => none }
def soundRingingRow : OpenClaim := { program := "ytchkiolagohnlaa", sum := "e43968d13da9f7a4ec5715264ad06dd9ab8bb7d1d4f2c35e223c8344c0cbc84b", func := "theorbo/theorbolaw05.SoundRinging", spec := "soundRinging", unfollowed := true, recurses := true, apart := false }
def SoundRingingSaid : Prop := soundRingingRow.holds Try.pinned (OpenSpec.ofChange soundRingingSpec)

/-- ITS FALSE NEIGHBOUR: 'it returns false'. Refute it at one input. -/
def soundRingingWrong : ChangeSpec := { name := "soundRinging", fn := fun _ => fun
  | [d1, d2] => { results := [.lit (.bool false)], args := [d1, d2] }
  | _ => none }
def SoundRingingWrongFalsely : Prop := soundRingingRow.holds Try.pinned (OpenSpec.ofChange soundRingingWrong)

/-- 'theorbolaw05.SoundCauses': WHATEVER THE INPUT: true; the input reads as it did. -/
def soundCausesSpec : ChangeSpec := { name := "soundCauses", fn := fun _ => fun
  | [d] => { results := [.lit (.bool true)], args := [d] }
  | _ => none }
def soundCausesRow : OpenClaim := { program := "ytchkiolagohnlaa", sum := "e43968d13da9f7a4ec5715264ad06dd9ab8bb7d1d4f2c35e223c8344c0cbc84b", func := "theorbo/theorbolaw05.SoundCauses", spec := "soundCauses", unfollowed := true, recurses := true, apart := false }
def SoundCausesSaid : Prop := soundCausesRow.holds Try.pinned (OpenSpec.ofChange soundCausesSpec)

/-- ITS FALSE NEIGHBOUR: 'it returns false'. Refute it at one input. -/
def soundCausesWrong : ChangeSpec := { name := "soundCauses", fn := fun _ => fun
  | [d] => { results := [.lit (.bool false)], args := [d] }
  | _ => none }
def SoundCausesWrongFalsely : Prop := soundCausesRow.holds Try.pinned (OpenSpec.ofChange soundCausesWrong)

/-- 'theorbolaw05.SoundWhole': WHATEVER THE INPUT: true; the input reads as it did. -/
def soundWholeSpec : ChangeSpec := { name := "soundWhole", fn := fun _ => fun
  | [d1, d2] => { results := [.lit (.bool true)], args := [d1, d2] }
  | _ => none }
def soundWholeRow : OpenClaim := { program := "ytchkiolagohnlaa", sum := "e43968d13da9f7a4ec5715264ad06dd9ab8bb7d1d4f2c35e223c8344c0cbc84b", func := "theorbo/theorbolaw05.SoundWhole", spec := "soundWhole", unfollowed := true, recurses := true, apart := false }
def SoundWholeSaid : Prop := soundWholeRow.holds Try.pinned (OpenSpec.ofChange soundWholeSpec)

/-- ITS FALSE NEIGHBOUR: 'it returns false'. Refute it at one input. -/
def soundWholeWrong : ChangeSpec := { name := "soundWhole", fn := fun _ => fun
  | [d1, d2] => { results := [.lit (.bool false)], args := [d1, d2] }
  | _ => none }
def SoundWholeWrongFalsely : Prop := soundWholeRow.holds Try.pinned (OpenSpec.ofChange soundWholeWrong)

/-- 'theorbolaw05.SoundSonorities': WHATEVER THE INPUT: true; the input reads as it did. -/
def soundSonoritiesSpec : ChangeSpec := { name := "soundSonorities", fn := fun _ => fun
  | [d] => { results := [.lit (.bool true)], args := [d] }
  | _ => none }
def soundSonoritiesRow : OpenClaim := { program := "ytchkiolagohnlaa", sum := "e43968d13da9f7a4ec5715264ad06dd9ab8bb7d1d4f2c35e223c8344c0cbc84b", func := "theorbo/theorbolaw05.SoundSonorities", spec := "soundSonorities", unfollowed := true, recurses := true, apart := false }
def SoundSonoritiesSaid : Prop := soundSonoritiesRow.holds Try.pinned (OpenSpec.ofChange soundSonoritiesSpec)

/-- ITS FALSE NEIGHBOUR: 'it returns false'. Refute it at one input. -/
def soundSonoritiesWrong : ChangeSpec := { name := "soundSonorities", fn := fun _ => fun
  | [d] => { results := [.lit (.bool false)], args := [d] }
  | _ => none }
def SoundSonoritiesWrongFalsely : Prop := soundSonoritiesRow.holds Try.pinned (OpenSpec.ofChange soundSonoritiesWrong)

/-- 'theorbolaw05.SoundTones': WHATEVER THE INPUT: true; the input reads as it did. -/
def soundTonesSpec : ChangeSpec := { name := "soundTones", fn := fun _ => fun
  | [d] => { results := [.lit (.bool true)], args := [d] }
  | _ => none }
def soundTonesRow : OpenClaim := { program := "ytchkiolagohnlaa", sum := "e43968d13da9f7a4ec5715264ad06dd9ab8bb7d1d4f2c35e223c8344c0cbc84b", func := "theorbo/theorbolaw05.SoundTones", spec := "soundTones", unfollowed := true, recurses := true, apart := false }
def SoundTonesSaid : Prop := soundTonesRow.holds Try.pinned (OpenSpec.ofChange soundTonesSpec)

/-- ITS FALSE NEIGHBOUR: 'it returns false'. Refute it at one input. -/
def soundTonesWrong : ChangeSpec := { name := "soundTones", fn := fun _ => fun
  | [d] => { results := [.lit (.bool false)], args := [d] }
  | _ => none }
def SoundTonesWrongFalsely : Prop := soundTonesRow.holds Try.pinned (OpenSpec.ofChange soundTonesWrong)

/- THE SECOND FORM. 'bulk': how many values and letters a reading holds, each counted each time it is reached (what is shared counts as often as it is met; a slice's spare places count too). A statement '..UptoSaid' is the law's where the arguments, and the package variables that the reading takes, are together of bulk at most 1048576: NARROWER than '..Said'. Prove '..Said' where nothing that the law and all that it calls make is longer than what came in: it says more and counts as full. Else prove '..UptoSaid'. A law counts once. -/
mutual
def uptoBulk {H : Type} : DataW H → Nat
  | .lit (.string bytes) => bytes.length + 1
  | .lit _ => 1
  | .nil => 1
  | .ptr d => uptoBulk d + 1
  | .slice elems spare => uptoBulkAll elems + uptoBulkAll spare + 1
  | .agg parts => uptoBulkAll parts + 1
  | .iface _ d => uptoBulk d + 1
  | .map entries => uptoBulkEntries entries + 1
  | .held _ => 1
def uptoBulkAll {H : Type} : List (DataW H) → Nat
  | [] => 0
  | d :: r => uptoBulk d + uptoBulkAll r
def uptoBulkEntries {H : Type} : List (Lit × DataW H) → Nat
  | [] => 0
  | x :: r => uptoBulkEntry x + uptoBulkEntries r
def uptoBulkEntry {H : Type} : Lit × DataW H → Nat
  | (.string bytes, d) => bytes.length + uptoBulk d + 1
  | (_, d) => uptoBulk d + 1
 end
def uptoSmall : (H : Type) → List (DataW H) → Bool := fun _ ds => decide (uptoBulkAll ds ≤ 1048576)
def OpenSpec.upto (s : _root_.Go.ChangeSpec) : _root_.Go.OpenSpec := { _root_.Go.OpenSpec.ofChange s with cond := some uptoSmall }

/-- 'theorbolaw05.SoundNotes', WHERE WHAT IT READS IS OF BULK AT MOST 1048576: true; the input reads as it did. -/
def soundNotesUptoRow : OpenClaim := { program := "ytchkiolagohnlaa", sum := "e43968d13da9f7a4ec5715264ad06dd9ab8bb7d1d4f2c35e223c8344c0cbc84b", func := "theorbo/theorbolaw05.SoundNotes", spec := "soundNotes", unfollowed := true, recurses := true, apart := false, narrowed := true }
def SoundNotesUptoSaid : Prop := soundNotesUptoRow.holds Try.pinned (OpenSpec.upto soundNotesSpec)

/-- 'theorbolaw05.SoundAt', WHERE WHAT IT READS IS OF BULK AT MOST 1048576: true; the input reads as it did. -/
def soundAtUptoRow : OpenClaim := { program := "ytchkiolagohnlaa", sum := "e43968d13da9f7a4ec5715264ad06dd9ab8bb7d1d4f2c35e223c8344c0cbc84b", func := "theorbo/theorbolaw05.SoundAt", spec := "soundAt", unfollowed := true, recurses := true, apart := false, narrowed := true }
def SoundAtUptoSaid : Prop := soundAtUptoRow.holds Try.pinned (OpenSpec.upto soundAtSpec)

/-- 'theorbolaw05.SoundConcords', WHERE WHAT IT READS IS OF BULK AT MOST 1048576: true; the input reads as it did. -/
def soundConcordsUptoRow : OpenClaim := { program := "ytchkiolagohnlaa", sum := "e43968d13da9f7a4ec5715264ad06dd9ab8bb7d1d4f2c35e223c8344c0cbc84b", func := "theorbo/theorbolaw05.SoundConcords", spec := "soundConcords", unfollowed := true, recurses := true, apart := false, narrowed := true }
def SoundConcordsUptoSaid : Prop := soundConcordsUptoRow.holds Try.pinned (OpenSpec.upto soundConcordsSpec)

/-- 'theorbolaw05.SoundConcordsMoved', WHERE WHAT IT READS IS OF BULK AT MOST 1048576: true; the input reads as it did. -/
def soundConcordsMovedUptoRow : OpenClaim := { program := "ytchkiolagohnlaa", sum := "e43968d13da9f7a4ec5715264ad06dd9ab8bb7d1d4f2c35e223c8344c0cbc84b", func := "theorbo/theorbolaw05.SoundConcordsMoved", spec := "soundConcordsMoved", unfollowed := true, recurses := true, apart := false, narrowed := true }
def SoundConcordsMovedUptoSaid : Prop := soundConcordsMovedUptoRow.holds Try.pinned (OpenSpec.upto soundConcordsMovedSpec)

/-- 'theorbolaw05.SoundPresses', WHERE WHAT IT READS IS OF BULK AT MOST 1048576: true; the input reads as it did. -/
def soundPressesUptoRow : OpenClaim := { program := "ytchkiolagohnlaa", sum := "e43968d13da9f7a4ec5715264ad06dd9ab8bb7d1d4f2c35e223c8344c0cbc84b", func := "theorbo/theorbolaw05.SoundPresses", spec := "soundPresses", unfollowed := true, recurses := true, apart := false, narrowed := true }
def SoundPressesUptoSaid : Prop := soundPressesUptoRow.holds Try.pinned (OpenSpec.upto soundPressesSpec)

/-- 'theorbolaw05.SoundLines', WHERE WHAT IT READS IS OF BULK AT MOST 1048576: true; the input reads as it did. -/
def soundLinesUptoRow : OpenClaim := { program := "ytchkiolagohnlaa", sum := "e43968d13da9f7a4ec5715264ad06dd9ab8bb7d1d4f2c35e223c8344c0cbc84b", func := "theorbo/theorbolaw05.SoundLines", spec := "soundLines", unfollowed := true, recurses := true, apart := false, narrowed := true }
def SoundLinesUptoSaid : Prop := soundLinesUptoRow.holds Try.pinned (OpenSpec.upto soundLinesSpec)

/-- 'theorbolaw05.SoundApart', WHERE WHAT IT READS IS OF BULK AT MOST 1048576: true; the input reads as it did. -/
def soundApartUptoRow : OpenClaim := { program := "ytchkiolagohnlaa", sum := "e43968d13da9f7a4ec5715264ad06dd9ab8bb7d1d4f2c35e223c8344c0cbc84b", func := "theorbo/theorbolaw05.SoundApart", spec := "soundApart", unfollowed := true, recurses := true, apart := false, narrowed := true }
def SoundApartUptoSaid : Prop := soundApartUptoRow.holds Try.pinned (OpenSpec.upto soundApartSpec)

/-- 'theorbolaw05.SoundRinging', WHERE WHAT IT READS IS OF BULK AT MOST 1048576: true; the input reads as it did. -/
def soundRingingUptoRow : OpenClaim := { program := "ytchkiolagohnlaa", sum := "e43968d13da9f7a4ec5715264ad06dd9ab8bb7d1d4f2c35e223c8344c0cbc84b", func := "theorbo/theorbolaw05.SoundRinging", spec := "soundRinging", unfollowed := true, recurses := true, apart := false, narrowed := true }
def SoundRingingUptoSaid : Prop := soundRingingUptoRow.holds Try.pinned (OpenSpec.upto soundRingingSpec)

/-- 'theorbolaw05.SoundCauses', WHERE WHAT IT READS IS OF BULK AT MOST 1048576: true; the input reads as it did. -/
def soundCausesUptoRow : OpenClaim := { program := "ytchkiolagohnlaa", sum := "e43968d13da9f7a4ec5715264ad06dd9ab8bb7d1d4f2c35e223c8344c0cbc84b", func := "theorbo/theorbolaw05.SoundCauses", spec := "soundCauses", unfollowed := true, recurses := true, apart := false, narrowed := true }
def SoundCausesUptoSaid : Prop := soundCausesUptoRow.holds Try.pinned (OpenSpec.upto soundCausesSpec)

/-- 'theorbolaw05.SoundWhole', WHERE WHAT IT READS IS OF BULK AT MOST 1048576: true; the input reads as it did. -/
def soundWholeUptoRow : OpenClaim := { program := "ytchkiolagohnlaa", sum := "e43968d13da9f7a4ec5715264ad06dd9ab8bb7d1d4f2c35e223c8344c0cbc84b", func := "theorbo/theorbolaw05.SoundWhole", spec := "soundWhole", unfollowed := true, recurses := true, apart := false, narrowed := true }
def SoundWholeUptoSaid : Prop := soundWholeUptoRow.holds Try.pinned (OpenSpec.upto soundWholeSpec)

/-- 'theorbolaw05.SoundSonorities', WHERE WHAT IT READS IS OF BULK AT MOST 1048576: true; the input reads as it did. -/
def soundSonoritiesUptoRow : OpenClaim := { program := "ytchkiolagohnlaa", sum := "e43968d13da9f7a4ec5715264ad06dd9ab8bb7d1d4f2c35e223c8344c0cbc84b", func := "theorbo/theorbolaw05.SoundSonorities", spec := "soundSonorities", unfollowed := true, recurses := true, apart := false, narrowed := true }
def SoundSonoritiesUptoSaid : Prop := soundSonoritiesUptoRow.holds Try.pinned (OpenSpec.upto soundSonoritiesSpec)

/-- 'theorbolaw05.SoundTones', WHERE WHAT IT READS IS OF BULK AT MOST 1048576: true; the input reads as it did. -/
def soundTonesUptoRow : OpenClaim := { program := "ytchkiolagohnlaa", sum := "e43968d13da9f7a4ec5715264ad06dd9ab8bb7d1d4f2c35e223c8344c0cbc84b", func := "theorbo/theorbolaw05.SoundTones", spec := "soundTones", unfollowed := true, recurses := true, apart := false, narrowed := true }
def SoundTonesUptoSaid : Prop := soundTonesUptoRow.holds Try.pinned (OpenSpec.upto soundTonesSpec)

end Rows
end Go.Proofs.Ytchkiolagohnlaa
