/-
  No cell of these rows narrows 'for every input' (looked for: loops, veiled, ifaces, maps, wideKeys, modest, calm, conditions, laid).
  DERIVED. THE GIVEN ROWS OF THIS SEAT. 16 by the template 'for every input the law returns true; each argument reads behind the call as it read before'; 0 by the template 'total and deterministic' (their statements: YtgnhnapnjmbieaaTotals.lean).
  GIVEN WITH THE SEED: the statements are not yours to turn. If you find one false, say at which input.
  Laid BY PROGRAM, IN A SANDBOX (cutbox-rows.mjs): the forced cells as the released guide's own fill.sh prints them over the translation 0b0876fa9d713e75… (all of the seat's roots in one cut). By AI agents, Wed Nov 11 2026. No macro, syntax, notation, axiom, sorry.
-/
import Derived.Test.YtgnhnapnjmbieaaChecked
import GoSem.Claim
import GoSem.ClaimJoined
import GoSem.ClaimMapViews
import Derived.JoinedTies
import Derived.KernelRfl
namespace Go.Proofs.Ytgnhnapnjmbieaa
/- THE CELL 'sum', in the pinned program and in every row, IS THE sha256 OF THE DUMP (.gsa) THAT YtgnhnapnjmbieaaProg.lean LOADS. Nothing in Lean hashes anything: it is a label: what it is worth is what the hold of that sum in a sandbox is worth. -/
noncomputable def Try.pinned : Pinned := { name := "ytgnhnapnjmbieaa", sum := "0b0876fa9d713e756b953c3977c4cc2abcc44e9fb859e537301a2df48be08831", checked := Try.checked }
namespace Rows
def none {H : Type} : Left H := { results := [], args := [] }

/-- 'theorbotop.TopRewrites': WHATEVER THE INPUT: true; the input reads as it did. -/
def topRewritesSpec : ChangeSpec := { name := "topRewrites", fn := fun _ => fun
  | [d1, d2] => { results := [.lit (.bool true)], args := [d1, d2] }
  | _ => none }
def topRewritesRow : OpenClaim := { program := "ytgnhnapnjmbieaa", sum := "0b0876fa9d713e756b953c3977c4cc2abcc44e9fb859e537301a2df48be08831", func := "theorbo/theorbotop.TopRewrites", spec := "topRewrites", unfollowed := true, recurses := true, apart := false }
def TopRewritesSaid : Prop := topRewritesRow.holds Try.pinned (OpenSpec.ofChange topRewritesSpec)

/-- ITS FALSE NEIGHBOUR: 'it returns false'. Refute it at one input. -/
def topRewritesWrong : ChangeSpec := { name := "topRewrites", fn := fun _ => fun
  | [d1, d2] => { results := [.lit (.bool false)], args := [d1, d2] }
  | _ => none }
def TopRewritesWrongFalsely : Prop := topRewritesRow.holds Try.pinned (OpenSpec.ofChange topRewritesWrong)

/-- 'theorbolaw02.PieceTicks': WHATEVER THE INPUT: true; the input reads as it did. -/
def pieceTicksSpec : ChangeSpec := { name := "pieceTicks", fn := fun _ => fun
  | [d] => { results := [.lit (.bool true)], args := [d] }
  | _ => none }
def pieceTicksRow : OpenClaim := { program := "ytgnhnapnjmbieaa", sum := "0b0876fa9d713e756b953c3977c4cc2abcc44e9fb859e537301a2df48be08831", func := "theorbo/theorbolaw02.PieceTicks", spec := "pieceTicks", unfollowed := true, recurses := true, apart := false }
def PieceTicksSaid : Prop := pieceTicksRow.holds Try.pinned (OpenSpec.ofChange pieceTicksSpec)

/-- ITS FALSE NEIGHBOUR: 'it returns false'. Refute it at one input. -/
def pieceTicksWrong : ChangeSpec := { name := "pieceTicks", fn := fun _ => fun
  | [d] => { results := [.lit (.bool false)], args := [d] }
  | _ => none }
def PieceTicksWrongFalsely : Prop := pieceTicksRow.holds Try.pinned (OpenSpec.ofChange pieceTicksWrong)

/-- 'theorbolaw02.PieceSigns': WHATEVER THE INPUT: true; the input reads as it did. -/
def pieceSignsSpec : ChangeSpec := { name := "pieceSigns", fn := fun _ => fun
  | [d] => { results := [.lit (.bool true)], args := [d] }
  | _ => none }
def pieceSignsRow : OpenClaim := { program := "ytgnhnapnjmbieaa", sum := "0b0876fa9d713e756b953c3977c4cc2abcc44e9fb859e537301a2df48be08831", func := "theorbo/theorbolaw02.PieceSigns", spec := "pieceSigns", unfollowed := true, recurses := true, apart := false }
def PieceSignsSaid : Prop := pieceSignsRow.holds Try.pinned (OpenSpec.ofChange pieceSignsSpec)

/-- ITS FALSE NEIGHBOUR: 'it returns false'. Refute it at one input. -/
def pieceSignsWrong : ChangeSpec := { name := "pieceSigns", fn := fun _ => fun
  | [d] => { results := [.lit (.bool false)], args := [d] }
  | _ => none }
def PieceSignsWrongFalsely : Prop := pieceSignsRow.holds Try.pinned (OpenSpec.ofChange pieceSignsWrong)

/-- 'theorbolaw02.PieceSignsAdd': WHATEVER THE INPUT: true; the input reads as it did. -/
def pieceSignsAddSpec : ChangeSpec := { name := "pieceSignsAdd", fn := fun _ => fun
  | [d1, d2] => { results := [.lit (.bool true)], args := [d1, d2] }
  | _ => none }
def pieceSignsAddRow : OpenClaim := { program := "ytgnhnapnjmbieaa", sum := "0b0876fa9d713e756b953c3977c4cc2abcc44e9fb859e537301a2df48be08831", func := "theorbo/theorbolaw02.PieceSignsAdd", spec := "pieceSignsAdd", unfollowed := true, recurses := true, apart := false }
def PieceSignsAddSaid : Prop := pieceSignsAddRow.holds Try.pinned (OpenSpec.ofChange pieceSignsAddSpec)

/-- ITS FALSE NEIGHBOUR: 'it returns false'. Refute it at one input. -/
def pieceSignsAddWrong : ChangeSpec := { name := "pieceSignsAdd", fn := fun _ => fun
  | [d1, d2] => { results := [.lit (.bool false)], args := [d1, d2] }
  | _ => none }
def PieceSignsAddWrongFalsely : Prop := pieceSignsAddRow.holds Try.pinned (OpenSpec.ofChange pieceSignsAddWrong)

/-- 'theorbolaw02.PieceChecks': WHATEVER THE INPUT: true; the input reads as it did. -/
def pieceChecksSpec : ChangeSpec := { name := "pieceChecks", fn := fun _ => fun
  | [d1, d2, d3] => { results := [.lit (.bool true)], args := [d1, d2, d3] }
  | _ => none }
def pieceChecksRow : OpenClaim := { program := "ytgnhnapnjmbieaa", sum := "0b0876fa9d713e756b953c3977c4cc2abcc44e9fb859e537301a2df48be08831", func := "theorbo/theorbolaw02.PieceChecks", spec := "pieceChecks", unfollowed := true, recurses := true, apart := false }
def PieceChecksSaid : Prop := pieceChecksRow.holds Try.pinned (OpenSpec.ofChange pieceChecksSpec)

/-- ITS FALSE NEIGHBOUR: 'it returns false'. Refute it at one input. -/
def pieceChecksWrong : ChangeSpec := { name := "pieceChecks", fn := fun _ => fun
  | [d1, d2, d3] => { results := [.lit (.bool false)], args := [d1, d2, d3] }
  | _ => none }
def PieceChecksWrongFalsely : Prop := pieceChecksRow.holds Try.pinned (OpenSpec.ofChange pieceChecksWrong)

/-- 'theorbolaw02.PieceTimes': WHATEVER THE INPUT: true; the input reads as it did. -/
def pieceTimesSpec : ChangeSpec := { name := "pieceTimes", fn := fun _ => fun
  | [d] => { results := [.lit (.bool true)], args := [d] }
  | _ => none }
def pieceTimesRow : OpenClaim := { program := "ytgnhnapnjmbieaa", sum := "0b0876fa9d713e756b953c3977c4cc2abcc44e9fb859e537301a2df48be08831", func := "theorbo/theorbolaw02.PieceTimes", spec := "pieceTimes", unfollowed := true, recurses := true, apart := false }
def PieceTimesSaid : Prop := pieceTimesRow.holds Try.pinned (OpenSpec.ofChange pieceTimesSpec)

/-- ITS FALSE NEIGHBOUR: 'it returns false'. Refute it at one input. -/
def pieceTimesWrong : ChangeSpec := { name := "pieceTimes", fn := fun _ => fun
  | [d] => { results := [.lit (.bool false)], args := [d] }
  | _ => none }
def PieceTimesWrongFalsely : Prop := pieceTimesRow.holds Try.pinned (OpenSpec.ofChange pieceTimesWrong)

/-- 'theorbolaw02.PieceAugments': WHATEVER THE INPUT: true; the input reads as it did. -/
def pieceAugmentsSpec : ChangeSpec := { name := "pieceAugments", fn := fun _ => fun
  | [d1, d2] => { results := [.lit (.bool true)], args := [d1, d2] }
  | _ => none }
def pieceAugmentsRow : OpenClaim := { program := "ytgnhnapnjmbieaa", sum := "0b0876fa9d713e756b953c3977c4cc2abcc44e9fb859e537301a2df48be08831", func := "theorbo/theorbolaw02.PieceAugments", spec := "pieceAugments", unfollowed := true, recurses := true, apart := false }
def PieceAugmentsSaid : Prop := pieceAugmentsRow.holds Try.pinned (OpenSpec.ofChange pieceAugmentsSpec)

/-- ITS FALSE NEIGHBOUR: 'it returns false'. Refute it at one input. -/
def pieceAugmentsWrong : ChangeSpec := { name := "pieceAugments", fn := fun _ => fun
  | [d1, d2] => { results := [.lit (.bool false)], args := [d1, d2] }
  | _ => none }
def PieceAugmentsWrongFalsely : Prop := pieceAugmentsRow.holds Try.pinned (OpenSpec.ofChange pieceAugmentsWrong)

/-- 'theorbolaw02.PieceAppends': WHATEVER THE INPUT: true; the input reads as it did. -/
def pieceAppendsSpec : ChangeSpec := { name := "pieceAppends", fn := fun _ => fun
  | [d1, d2] => { results := [.lit (.bool true)], args := [d1, d2] }
  | _ => none }
def pieceAppendsRow : OpenClaim := { program := "ytgnhnapnjmbieaa", sum := "0b0876fa9d713e756b953c3977c4cc2abcc44e9fb859e537301a2df48be08831", func := "theorbo/theorbolaw02.PieceAppends", spec := "pieceAppends", unfollowed := true, recurses := true, apart := false }
def PieceAppendsSaid : Prop := pieceAppendsRow.holds Try.pinned (OpenSpec.ofChange pieceAppendsSpec)

/-- ITS FALSE NEIGHBOUR: 'it returns false'. Refute it at one input. -/
def pieceAppendsWrong : ChangeSpec := { name := "pieceAppends", fn := fun _ => fun
  | [d1, d2] => { results := [.lit (.bool false)], args := [d1, d2] }
  | _ => none }
def PieceAppendsWrongFalsely : Prop := pieceAppendsRow.holds Try.pinned (OpenSpec.ofChange pieceAppendsWrong)

/-- 'theorbolaw02.PieceCompares': WHATEVER THE INPUT: true; the input reads as it did. -/
def pieceComparesSpec : ChangeSpec := { name := "pieceCompares", fn := fun _ => fun
  | [d1, d2] => { results := [.lit (.bool true)], args := [d1, d2] }
  | _ => none }
def pieceComparesRow : OpenClaim := { program := "ytgnhnapnjmbieaa", sum := "0b0876fa9d713e756b953c3977c4cc2abcc44e9fb859e537301a2df48be08831", func := "theorbo/theorbolaw02.PieceCompares", spec := "pieceCompares", unfollowed := true, recurses := true, apart := false }
def PieceComparesSaid : Prop := pieceComparesRow.holds Try.pinned (OpenSpec.ofChange pieceComparesSpec)

/-- ITS FALSE NEIGHBOUR: 'it returns false'. Refute it at one input. -/
def pieceComparesWrong : ChangeSpec := { name := "pieceCompares", fn := fun _ => fun
  | [d1, d2] => { results := [.lit (.bool false)], args := [d1, d2] }
  | _ => none }
def PieceComparesWrongFalsely : Prop := pieceComparesRow.holds Try.pinned (OpenSpec.ofChange pieceComparesWrong)

/-- 'theorbolaw02.PieceCuts': WHATEVER THE INPUT: true; the input reads as it did. -/
def pieceCutsSpec : ChangeSpec := { name := "pieceCuts", fn := fun _ => fun
  | [d1, d2, d3] => { results := [.lit (.bool true)], args := [d1, d2, d3] }
  | _ => none }
def pieceCutsRow : OpenClaim := { program := "ytgnhnapnjmbieaa", sum := "0b0876fa9d713e756b953c3977c4cc2abcc44e9fb859e537301a2df48be08831", func := "theorbo/theorbolaw02.PieceCuts", spec := "pieceCuts", unfollowed := true, recurses := true, apart := false }
def PieceCutsSaid : Prop := pieceCutsRow.holds Try.pinned (OpenSpec.ofChange pieceCutsSpec)

/-- ITS FALSE NEIGHBOUR: 'it returns false'. Refute it at one input. -/
def pieceCutsWrong : ChangeSpec := { name := "pieceCuts", fn := fun _ => fun
  | [d1, d2, d3] => { results := [.lit (.bool false)], args := [d1, d2, d3] }
  | _ => none }
def PieceCutsWrongFalsely : Prop := pieceCutsRow.holds Try.pinned (OpenSpec.ofChange pieceCutsWrong)

/-- 'theorbolaw02.PieceBreaks': WHATEVER THE INPUT: true; the input reads as it did. -/
def pieceBreaksSpec : ChangeSpec := { name := "pieceBreaks", fn := fun _ => fun
  | [d1, d2] => { results := [.lit (.bool true)], args := [d1, d2] }
  | _ => none }
def pieceBreaksRow : OpenClaim := { program := "ytgnhnapnjmbieaa", sum := "0b0876fa9d713e756b953c3977c4cc2abcc44e9fb859e537301a2df48be08831", func := "theorbo/theorbolaw02.PieceBreaks", spec := "pieceBreaks", unfollowed := true, recurses := true, apart := false }
def PieceBreaksSaid : Prop := pieceBreaksRow.holds Try.pinned (OpenSpec.ofChange pieceBreaksSpec)

/-- ITS FALSE NEIGHBOUR: 'it returns false'. Refute it at one input. -/
def pieceBreaksWrong : ChangeSpec := { name := "pieceBreaks", fn := fun _ => fun
  | [d1, d2] => { results := [.lit (.bool false)], args := [d1, d2] }
  | _ => none }
def PieceBreaksWrongFalsely : Prop := pieceBreaksRow.holds Try.pinned (OpenSpec.ofChange pieceBreaksWrong)

/-- 'theorbolaw02.PieceTorn': WHATEVER THE INPUT: true; the input reads as it did. -/
def pieceTornSpec : ChangeSpec := { name := "pieceTorn", fn := fun _ => fun
  | [d1, d2] => { results := [.lit (.bool true)], args := [d1, d2] }
  | _ => none }
def pieceTornRow : OpenClaim := { program := "ytgnhnapnjmbieaa", sum := "0b0876fa9d713e756b953c3977c4cc2abcc44e9fb859e537301a2df48be08831", func := "theorbo/theorbolaw02.PieceTorn", spec := "pieceTorn", unfollowed := true, recurses := true, apart := false }
def PieceTornSaid : Prop := pieceTornRow.holds Try.pinned (OpenSpec.ofChange pieceTornSpec)

/-- ITS FALSE NEIGHBOUR: 'it returns false'. Refute it at one input. -/
def pieceTornWrong : ChangeSpec := { name := "pieceTorn", fn := fun _ => fun
  | [d1, d2] => { results := [.lit (.bool false)], args := [d1, d2] }
  | _ => none }
def PieceTornWrongFalsely : Prop := pieceTornRow.holds Try.pinned (OpenSpec.ofChange pieceTornWrong)

/-- 'theorbolaw02.PieceRewrites': WHATEVER THE INPUT: true; the input reads as it did. -/
def pieceRewritesSpec : ChangeSpec := { name := "pieceRewrites", fn := fun _ => fun
  | [d] => { results := [.lit (.bool true)], args := [d] }
  | _ => none }
def pieceRewritesRow : OpenClaim := { program := "ytgnhnapnjmbieaa", sum := "0b0876fa9d713e756b953c3977c4cc2abcc44e9fb859e537301a2df48be08831", func := "theorbo/theorbolaw02.PieceRewrites", spec := "pieceRewrites", unfollowed := true, recurses := true, apart := false }
def PieceRewritesSaid : Prop := pieceRewritesRow.holds Try.pinned (OpenSpec.ofChange pieceRewritesSpec)

/-- ITS FALSE NEIGHBOUR: 'it returns false'. Refute it at one input. -/
def pieceRewritesWrong : ChangeSpec := { name := "pieceRewrites", fn := fun _ => fun
  | [d] => { results := [.lit (.bool false)], args := [d] }
  | _ => none }
def PieceRewritesWrongFalsely : Prop := pieceRewritesRow.holds Try.pinned (OpenSpec.ofChange pieceRewritesWrong)

/-- 'theorbolaw02.PieceBars': WHATEVER THE INPUT: true; the input reads as it did. -/
def pieceBarsSpec : ChangeSpec := { name := "pieceBars", fn := fun _ => fun
  | [d1, d2] => { results := [.lit (.bool true)], args := [d1, d2] }
  | _ => none }
def pieceBarsRow : OpenClaim := { program := "ytgnhnapnjmbieaa", sum := "0b0876fa9d713e756b953c3977c4cc2abcc44e9fb859e537301a2df48be08831", func := "theorbo/theorbolaw02.PieceBars", spec := "pieceBars", unfollowed := true, recurses := true, apart := false }
def PieceBarsSaid : Prop := pieceBarsRow.holds Try.pinned (OpenSpec.ofChange pieceBarsSpec)

/-- ITS FALSE NEIGHBOUR: 'it returns false'. Refute it at one input. -/
def pieceBarsWrong : ChangeSpec := { name := "pieceBars", fn := fun _ => fun
  | [d1, d2] => { results := [.lit (.bool false)], args := [d1, d2] }
  | _ => none }
def PieceBarsWrongFalsely : Prop := pieceBarsRow.holds Try.pinned (OpenSpec.ofChange pieceBarsWrong)

/-- 'theorbolaw02.PieceTerseness': WHATEVER THE INPUT: true; the input reads as it did. -/
def pieceTersenessSpec : ChangeSpec := { name := "pieceTerseness", fn := fun _ => fun
  | [d] => { results := [.lit (.bool true)], args := [d] }
  | _ => none }
def pieceTersenessRow : OpenClaim := { program := "ytgnhnapnjmbieaa", sum := "0b0876fa9d713e756b953c3977c4cc2abcc44e9fb859e537301a2df48be08831", func := "theorbo/theorbolaw02.PieceTerseness", spec := "pieceTerseness", unfollowed := true, recurses := true, apart := false }
def PieceTersenessSaid : Prop := pieceTersenessRow.holds Try.pinned (OpenSpec.ofChange pieceTersenessSpec)

/-- ITS FALSE NEIGHBOUR: 'it returns false'. Refute it at one input. -/
def pieceTersenessWrong : ChangeSpec := { name := "pieceTerseness", fn := fun _ => fun
  | [d] => { results := [.lit (.bool false)], args := [d] }
  | _ => none }
def PieceTersenessWrongFalsely : Prop := pieceTersenessRow.holds Try.pinned (OpenSpec.ofChange pieceTersenessWrong)

/-- 'theorbolaw02.PieceValid': WHATEVER THE INPUT: true; the input reads as it did. -/
def pieceValidSpec : ChangeSpec := { name := "pieceValid", fn := fun _ => fun
  | [d1, d2, d3] => { results := [.lit (.bool true)], args := [d1, d2, d3] }
  | _ => none }
def pieceValidRow : OpenClaim := { program := "ytgnhnapnjmbieaa", sum := "0b0876fa9d713e756b953c3977c4cc2abcc44e9fb859e537301a2df48be08831", func := "theorbo/theorbolaw02.PieceValid", spec := "pieceValid", unfollowed := true, recurses := true, apart := false }
def PieceValidSaid : Prop := pieceValidRow.holds Try.pinned (OpenSpec.ofChange pieceValidSpec)

/-- ITS FALSE NEIGHBOUR: 'it returns false'. Refute it at one input. -/
def pieceValidWrong : ChangeSpec := { name := "pieceValid", fn := fun _ => fun
  | [d1, d2, d3] => { results := [.lit (.bool false)], args := [d1, d2, d3] }
  | _ => none }
def PieceValidWrongFalsely : Prop := pieceValidRow.holds Try.pinned (OpenSpec.ofChange pieceValidWrong)

/- THE SECOND FORM. 'bulk': how many values and letters a reading holds, each counted each time it is reached (what is shared counts as often as it is met; a slice's spare places count too). A statement '..UptoSaid' is the law's where the arguments, and the package variables that the reading takes, are together of bulk at most 1048576: NARROWER than '..Said'. Prove '..Said' where nothing that the law and all that it calls make is longer than what came in: it says more and counts as full. Else prove '..UptoSaid'. A law counts once. -/
mutual
def uptoBulk {H : Type} : DataW H → Nat
  | .lit (.string bytes) => bytes.length + 1
  | .lit _ => 1
  | .nil => 1
  | .ptr d => uptoBulk d + 1
  | .slice elems spare => uptoBulkAll elems + uptoBulkAll spare + 1
  | .agg parts => uptoBulkAll parts + 1
  | .iface _ d => uptoBulk d + 1
  | .map entries => uptoBulkEntries entries + 1
  | .held _ => 1
def uptoBulkAll {H : Type} : List (DataW H) → Nat
  | [] => 0
  | d :: r => uptoBulk d + uptoBulkAll r
def uptoBulkEntries {H : Type} : List (Lit × DataW H) → Nat
  | [] => 0
  | x :: r => uptoBulkEntry x + uptoBulkEntries r
def uptoBulkEntry {H : Type} : Lit × DataW H → Nat
  | (.string bytes, d) => bytes.length + uptoBulk d + 1
  | (_, d) => uptoBulk d + 1
 end
def uptoSmall : (H : Type) → List (DataW H) → Bool := fun _ ds => decide (uptoBulkAll ds ≤ 1048576)
def OpenSpec.upto (s : _root_.Go.ChangeSpec) : _root_.Go.OpenSpec := { _root_.Go.OpenSpec.ofChange s with cond := some uptoSmall }

/-- 'theorbotop.TopRewrites', WHERE WHAT IT READS IS OF BULK AT MOST 1048576: true; the input reads as it did. -/
def topRewritesUptoRow : OpenClaim := { program := "ytgnhnapnjmbieaa", sum := "0b0876fa9d713e756b953c3977c4cc2abcc44e9fb859e537301a2df48be08831", func := "theorbo/theorbotop.TopRewrites", spec := "topRewrites", unfollowed := true, recurses := true, apart := false, narrowed := true }
def TopRewritesUptoSaid : Prop := topRewritesUptoRow.holds Try.pinned (OpenSpec.upto topRewritesSpec)

/-- 'theorbolaw02.PieceTicks', WHERE WHAT IT READS IS OF BULK AT MOST 1048576: true; the input reads as it did. -/
def pieceTicksUptoRow : OpenClaim := { program := "ytgnhnapnjmbieaa", sum := "0b0876fa9d713e756b953c3977c4cc2abcc44e9fb859e537301a2df48be08831", func := "theorbo/theorbolaw02.PieceTicks", spec := "pieceTicks", unfollowed := true, recurses := true, apart := false, narrowed := true }
def PieceTicksUptoSaid : Prop := pieceTicksUptoRow.holds Try.pinned (OpenSpec.upto pieceTicksSpec)

/-- 'theorbolaw02.PieceSigns', WHERE WHAT IT READS IS OF BULK AT MOST 1048576: true; the input reads as it did. -/
def pieceSignsUptoRow : OpenClaim := { program := "ytgnhnapnjmbieaa", sum := "0b0876fa9d713e756b953c3977c4cc2abcc44e9fb859e537301a2df48be08831", func := "theorbo/theorbolaw02.PieceSigns", spec := "pieceSigns", unfollowed := true, recurses := true, apart := false, narrowed := true }
def PieceSignsUptoSaid : Prop := pieceSignsUptoRow.holds Try.pinned (OpenSpec.upto pieceSignsSpec)

/-- 'theorbolaw02.PieceSignsAdd', WHERE WHAT IT READS IS OF BULK AT MOST 1048576: true; the input reads as it did. -/
def pieceSignsAddUptoRow : OpenClaim := { program := "ytgnhnapnjmbieaa", sum := "0b0876fa9d713e756b953c3977c4cc2abcc44e9fb859e537301a2df48be08831", func := "theorbo/theorbolaw02.PieceSignsAdd", spec := "pieceSignsAdd", unfollowed := true, recurses := true, apart := false, narrowed := true }
def PieceSignsAddUptoSaid : Prop := pieceSignsAddUptoRow.holds Try.pinned (OpenSpec.upto pieceSignsAddSpec)

/-- 'theorbolaw02.PieceChecks', WHERE WHAT IT READS IS OF BULK AT MOST 1048576: true; the input reads as it did. -/
def pieceChecksUptoRow : OpenClaim := { program := "ytgnhnapnjmbieaa", sum := "0b0876fa9d713e756b953c3977c4cc2abcc44e9fb859e537301a2df48be08831", func := "theorbo/theorbolaw02.PieceChecks", spec := "pieceChecks", unfollowed := true, recurses := true, apart := false, narrowed := true }
def PieceChecksUptoSaid : Prop := pieceChecksUptoRow.holds Try.pinned (OpenSpec.upto pieceChecksSpec)

/-- 'theorbolaw02.PieceTimes', WHERE WHAT IT READS IS OF BULK AT MOST 1048576: true; the input reads as it did. -/
def pieceTimesUptoRow : OpenClaim := { program := "ytgnhnapnjmbieaa", sum := "0b0876fa9d713e756b953c3977c4cc2abcc44e9fb859e537301a2df48be08831", func := "theorbo/theorbolaw02.PieceTimes", spec := "pieceTimes", unfollowed := true, recurses := true, apart := false, narrowed := true }
def PieceTimesUptoSaid : Prop := pieceTimesUptoRow.holds Try.pinned (OpenSpec.upto pieceTimesSpec)

/-- 'theorbolaw02.PieceAugments', WHERE WHAT IT READS IS OF BULK AT MOST 1048576: true; the input reads as it did. -/
def pieceAugmentsUptoRow : OpenClaim := { program := "ytgnhnapnjmbieaa", sum := "0b0876fa9d713e756b953c3977c4cc2abcc44e9fb859e537301a2df48be08831", func := "theorbo/theorbolaw02.PieceAugments", spec := "pieceAugments", unfollowed := true, recurses := true, apart := false, narrowed := true }
def PieceAugmentsUptoSaid : Prop := pieceAugmentsUptoRow.holds Try.pinned (OpenSpec.upto pieceAugmentsSpec)

/-- 'theorbolaw02.PieceAppends', WHERE WHAT IT READS IS OF BULK AT MOST 1048576: true; the input reads as it did. -/
def pieceAppendsUptoRow : OpenClaim := { program := "ytgnhnapnjmbieaa", sum := "0b0876fa9d713e756b953c3977c4cc2abcc44e9fb859e537301a2df48be08831", func := "theorbo/theorbolaw02.PieceAppends", spec := "pieceAppends", unfollowed := true, recurses := true, apart := false, narrowed := true }
def PieceAppendsUptoSaid : Prop := pieceAppendsUptoRow.holds Try.pinned (OpenSpec.upto pieceAppendsSpec)

/-- 'theorbolaw02.PieceCompares', WHERE WHAT IT READS IS OF BULK AT MOST 1048576: true; the input reads as it did. -/
def pieceComparesUptoRow : OpenClaim := { program := "ytgnhnapnjmbieaa", sum := "0b0876fa9d713e756b953c3977c4cc2abcc44e9fb859e537301a2df48be08831", func := "theorbo/theorbolaw02.PieceCompares", spec := "pieceCompares", unfollowed := true, recurses := true, apart := false, narrowed := true }
def PieceComparesUptoSaid : Prop := pieceComparesUptoRow.holds Try.pinned (OpenSpec.upto pieceComparesSpec)

/-- 'theorbolaw02.PieceCuts', WHERE WHAT IT READS IS OF BULK AT MOST 1048576: true; the input reads as it did. -/
def pieceCutsUptoRow : OpenClaim := { program := "ytgnhnapnjmbieaa", sum := "0b0876fa9d713e756b953c3977c4cc2abcc44e9fb859e537301a2df48be08831", func := "theorbo/theorbolaw02.PieceCuts", spec := "pieceCuts", unfollowed := true, recurses := true, apart := false, narrowed := true }
def PieceCutsUptoSaid : Prop := pieceCutsUptoRow.holds Try.pinned (OpenSpec.upto pieceCutsSpec)

/-- 'theorbolaw02.PieceBreaks', WHERE WHAT IT READS IS OF BULK AT MOST 1048576: true; the input reads as it did. -/
def pieceBreaksUptoRow : OpenClaim := { program := "ytgnhnapnjmbieaa", sum := "0b0876fa9d713e756b953c3977c4cc2abcc44e9fb859e537301a2df48be08831", func := "theorbo/theorbolaw02.PieceBreaks", spec := "pieceBreaks", unfollowed := true, recurses := true, apart := false, narrowed := true }
def PieceBreaksUptoSaid : Prop := pieceBreaksUptoRow.holds Try.pinned (OpenSpec.upto pieceBreaksSpec)

/-- 'theorbolaw02.PieceTorn', WHERE WHAT IT READS IS OF BULK AT MOST 1048576: true; the input reads as it did. -/
def pieceTornUptoRow : OpenClaim := { program := "ytgnhnapnjmbieaa", sum := "0b0876fa9d713e756b953c3977c4cc2abcc44e9fb859e537301a2df48be08831", func := "theorbo/theorbolaw02.PieceTorn", spec := "pieceTorn", unfollowed := true, recurses := true, apart := false, narrowed := true }
def PieceTornUptoSaid : Prop := pieceTornUptoRow.holds Try.pinned (OpenSpec.upto pieceTornSpec)

/-- 'theorbolaw02.PieceRewrites', WHERE WHAT IT READS IS OF BULK AT MOST 1048576: true; the input reads as it did. -/
def pieceRewritesUptoRow : OpenClaim := { program := "ytgnhnapnjmbieaa", sum := "0b0876fa9d713e756b953c3977c4cc2abcc44e9fb859e537301a2df48be08831", func := "theorbo/theorbolaw02.PieceRewrites", spec := "pieceRewrites", unfollowed := true, recurses := true, apart := false, narrowed := true }
def PieceRewritesUptoSaid : Prop := pieceRewritesUptoRow.holds Try.pinned (OpenSpec.upto pieceRewritesSpec)

/-- 'theorbolaw02.PieceBars', WHERE WHAT IT READS IS OF BULK AT MOST 1048576: true; the input reads as it did. -/
def pieceBarsUptoRow : OpenClaim := { program := "ytgnhnapnjmbieaa", sum := "0b0876fa9d713e756b953c3977c4cc2abcc44e9fb859e537301a2df48be08831", func := "theorbo/theorbolaw02.PieceBars", spec := "pieceBars", unfollowed := true, recurses := true, apart := false, narrowed := true }
def PieceBarsUptoSaid : Prop := pieceBarsUptoRow.holds Try.pinned (OpenSpec.upto pieceBarsSpec)

/-- 'theorbolaw02.PieceTerseness', WHERE WHAT IT READS IS OF BULK AT MOST 1048576: true; the input reads as it did. -/
def pieceTersenessUptoRow : OpenClaim := { program := "ytgnhnapnjmbieaa", sum := "0b0876fa9d713e756b953c3977c4cc2abcc44e9fb859e537301a2df48be08831", func := "theorbo/theorbolaw02.PieceTerseness", spec := "pieceTerseness", unfollowed := true, recurses := true, apart := false, narrowed := true }
def PieceTersenessUptoSaid : Prop := pieceTersenessUptoRow.holds Try.pinned (OpenSpec.upto pieceTersenessSpec)

/-- 'theorbolaw02.PieceValid', WHERE WHAT IT READS IS OF BULK AT MOST 1048576: true; the input reads as it did. -/
def pieceValidUptoRow : OpenClaim := { program := "ytgnhnapnjmbieaa", sum := "0b0876fa9d713e756b953c3977c4cc2abcc44e9fb859e537301a2df48be08831", func := "theorbo/theorbolaw02.PieceValid", spec := "pieceValid", unfollowed := true, recurses := true, apart := false, narrowed := true }
def PieceValidUptoSaid : Prop := pieceValidUptoRow.holds Try.pinned (OpenSpec.upto pieceValidSpec)

end Rows
end Go.Proofs.Ytgnhnapnjmbieaa
