/-
  No cell of these rows narrows 'for every input' (looked for: loops, veiled, ifaces, maps, wideKeys, modest, calm, conditions, laid).
  DERIVED. THE GIVEN ROWS OF THIS SEAT. 13 by the template 'for every input the law returns true; each argument reads behind the call as it read before'; 0 by the template 'total and deterministic' (their statements: YtlakcghdehdeiaaTotals.lean).
  GIVEN WITH THE SEED: the statements are not yours to turn. If you find one false, say at which input.
  Laid BY PROGRAM, IN A SANDBOX (cutbox-rows.mjs): the forced cells as the released guide's own fill.sh prints them over the translation d1f006023f2c02d0… (all of the seat's roots in one cut). By AI agents, Wed Nov 11 2026. No macro, syntax, notation, axiom, sorry.
-/
import Derived.Test.YtlakcghdehdeiaaChecked
import GoSem.Claim
import GoSem.ClaimJoined
import GoSem.ClaimMapViews
import Derived.JoinedTies
import Derived.KernelRfl
namespace Go.Proofs.Ytlakcghdehdeiaa
/- THE CELL 'sum', in the pinned program and in every row, IS THE sha256 OF THE DUMP (.gsa) THAT YtlakcghdehdeiaaProg.lean LOADS. Nothing in Lean hashes anything: it is a label: what it is worth is what the hold of that sum in a sandbox is worth. -/
noncomputable def Try.pinned : Pinned := { name := "ytlakcghdehdeiaa", sum := "d1f006023f2c02d06bb8b971d2e49cdd201f9017dd443b412adec17ca0e70d7b", checked := Try.checked }
namespace Rows
def none {H : Type} : Left H := { results := [], args := [] }

/-- 'bushellaw03.WeighDrifts': WHATEVER THE INPUT: true; the input reads as it did. -/
def weighDriftsSpec : ChangeSpec := { name := "weighDrifts", fn := fun _ => fun
  | [d1, d2, d3] => { results := [.lit (.bool true)], args := [d1, d2, d3] }
  | _ => none }
def weighDriftsRow : OpenClaim := { program := "ytlakcghdehdeiaa", sum := "d1f006023f2c02d06bb8b971d2e49cdd201f9017dd443b412adec17ca0e70d7b", func := "bushel/bushellaw03.WeighDrifts", spec := "weighDrifts", unfollowed := true, recurses := true, apart := false }
def WeighDriftsSaid : Prop := weighDriftsRow.holds Try.pinned (OpenSpec.ofChange weighDriftsSpec)

/-- ITS FALSE NEIGHBOUR: 'it returns false'. Refute it at one input. -/
def weighDriftsWrong : ChangeSpec := { name := "weighDrifts", fn := fun _ => fun
  | [d1, d2, d3] => { results := [.lit (.bool false)], args := [d1, d2, d3] }
  | _ => none }
def WeighDriftsWrongFalsely : Prop := weighDriftsRow.holds Try.pinned (OpenSpec.ofChange weighDriftsWrong)

/-- 'bushellaw03.WeighBooks': WHATEVER THE INPUT: true; the input reads as it did. -/
def weighBooksSpec : ChangeSpec := { name := "weighBooks", fn := fun _ => fun
  | [d1, d2] => { results := [.lit (.bool true)], args := [d1, d2] }
  | _ => none }
def weighBooksRow : OpenClaim := { program := "ytlakcghdehdeiaa", sum := "d1f006023f2c02d06bb8b971d2e49cdd201f9017dd443b412adec17ca0e70d7b", func := "bushel/bushellaw03.WeighBooks", spec := "weighBooks", unfollowed := true, recurses := true, apart := false }
def WeighBooksSaid : Prop := weighBooksRow.holds Try.pinned (OpenSpec.ofChange weighBooksSpec)

/-- ITS FALSE NEIGHBOUR: 'it returns false'. Refute it at one input. -/
def weighBooksWrong : ChangeSpec := { name := "weighBooks", fn := fun _ => fun
  | [d1, d2] => { results := [.lit (.bool false)], args := [d1, d2] }
  | _ => none }
def WeighBooksWrongFalsely : Prop := weighBooksRow.holds Try.pinned (OpenSpec.ofChange weighBooksWrong)

/-- 'bushellaw03.WeighChanges': WHATEVER THE INPUT: true; the input reads as it did. -/
def weighChangesSpec : ChangeSpec := { name := "weighChanges", fn := fun _ => fun
  | [d1, d2] => { results := [.lit (.bool true)], args := [d1, d2] }
  | _ => none }
def weighChangesRow : OpenClaim := { program := "ytlakcghdehdeiaa", sum := "d1f006023f2c02d06bb8b971d2e49cdd201f9017dd443b412adec17ca0e70d7b", func := "bushel/bushellaw03.WeighChanges", spec := "weighChanges", unfollowed := true, recurses := true, apart := false }
def WeighChangesSaid : Prop := weighChangesRow.holds Try.pinned (OpenSpec.ofChange weighChangesSpec)

/-- ITS FALSE NEIGHBOUR: 'it returns false'. Refute it at one input. -/
def weighChangesWrong : ChangeSpec := { name := "weighChanges", fn := fun _ => fun
  | [d1, d2] => { results := [.lit (.bool false)], args := [d1, d2] }
  | _ => none }
def WeighChangesWrongFalsely : Prop := weighChangesRow.holds Try.pinned (OpenSpec.ofChange weighChangesWrong)

/-- 'bushellaw03.WeighSettles': WHATEVER THE INPUT: true; the input reads as it did. -/
def weighSettlesSpec : ChangeSpec := { name := "weighSettles", fn := fun _ => fun
  | [d1, d2] => { results := [.lit (.bool true)], args := [d1, d2] }
  | _ => none }
def weighSettlesRow : OpenClaim := { program := "ytlakcghdehdeiaa", sum := "d1f006023f2c02d06bb8b971d2e49cdd201f9017dd443b412adec17ca0e70d7b", func := "bushel/bushellaw03.WeighSettles", spec := "weighSettles", unfollowed := true, recurses := true, apart := false }
def WeighSettlesSaid : Prop := weighSettlesRow.holds Try.pinned (OpenSpec.ofChange weighSettlesSpec)

/-- ITS FALSE NEIGHBOUR: 'it returns false'. Refute it at one input. -/
def weighSettlesWrong : ChangeSpec := { name := "weighSettles", fn := fun _ => fun
  | [d1, d2] => { results := [.lit (.bool false)], args := [d1, d2] }
  | _ => none }
def WeighSettlesWrongFalsely : Prop := weighSettlesRow.holds Try.pinned (OpenSpec.ofChange weighSettlesWrong)

/-- 'bushellaw03.WeighTrue': WHATEVER THE INPUT: true; the input reads as it did. -/
def weighTrueSpec : ChangeSpec := { name := "weighTrue", fn := fun _ => fun
  | [d1, d2, d3] => { results := [.lit (.bool true)], args := [d1, d2, d3] }
  | _ => none }
def weighTrueRow : OpenClaim := { program := "ytlakcghdehdeiaa", sum := "d1f006023f2c02d06bb8b971d2e49cdd201f9017dd443b412adec17ca0e70d7b", func := "bushel/bushellaw03.WeighTrue", spec := "weighTrue", unfollowed := true, recurses := true, apart := false }
def WeighTrueSaid : Prop := weighTrueRow.holds Try.pinned (OpenSpec.ofChange weighTrueSpec)

/-- ITS FALSE NEIGHBOUR: 'it returns false'. Refute it at one input. -/
def weighTrueWrong : ChangeSpec := { name := "weighTrue", fn := fun _ => fun
  | [d1, d2, d3] => { results := [.lit (.bool false)], args := [d1, d2, d3] }
  | _ => none }
def WeighTrueWrongFalsely : Prop := weighTrueRow.holds Try.pinned (OpenSpec.ofChange weighTrueWrong)

/-- 'bushellaw03.WeighTightens': WHATEVER THE INPUT: true; the input reads as it did. -/
def weighTightensSpec : ChangeSpec := { name := "weighTightens", fn := fun _ => fun
  | [d] => { results := [.lit (.bool true)], args := [d] }
  | _ => none }
def weighTightensRow : OpenClaim := { program := "ytlakcghdehdeiaa", sum := "d1f006023f2c02d06bb8b971d2e49cdd201f9017dd443b412adec17ca0e70d7b", func := "bushel/bushellaw03.WeighTightens", spec := "weighTightens", unfollowed := true, recurses := true, apart := false }
def WeighTightensSaid : Prop := weighTightensRow.holds Try.pinned (OpenSpec.ofChange weighTightensSpec)

/-- ITS FALSE NEIGHBOUR: 'it returns false'. Refute it at one input. -/
def weighTightensWrong : ChangeSpec := { name := "weighTightens", fn := fun _ => fun
  | [d] => { results := [.lit (.bool false)], args := [d] }
  | _ => none }
def WeighTightensWrongFalsely : Prop := weighTightensRow.holds Try.pinned (OpenSpec.ofChange weighTightensWrong)

/-- 'bushellaw03.WeighExhausts': WHATEVER THE INPUT: true; the input reads as it did. -/
def weighExhaustsSpec : ChangeSpec := { name := "weighExhausts", fn := fun _ => fun
  | [d1, d2] => { results := [.lit (.bool true)], args := [d1, d2] }
  | _ => none }
def weighExhaustsRow : OpenClaim := { program := "ytlakcghdehdeiaa", sum := "d1f006023f2c02d06bb8b971d2e49cdd201f9017dd443b412adec17ca0e70d7b", func := "bushel/bushellaw03.WeighExhausts", spec := "weighExhausts", unfollowed := true, recurses := true, apart := false }
def WeighExhaustsSaid : Prop := weighExhaustsRow.holds Try.pinned (OpenSpec.ofChange weighExhaustsSpec)

/-- ITS FALSE NEIGHBOUR: 'it returns false'. Refute it at one input. -/
def weighExhaustsWrong : ChangeSpec := { name := "weighExhausts", fn := fun _ => fun
  | [d1, d2] => { results := [.lit (.bool false)], args := [d1, d2] }
  | _ => none }
def WeighExhaustsWrongFalsely : Prop := weighExhaustsRow.holds Try.pinned (OpenSpec.ofChange weighExhaustsWrong)

/-- 'bushellaw03.WeighNarrows': WHATEVER THE INPUT: true; the input reads as it did. -/
def weighNarrowsSpec : ChangeSpec := { name := "weighNarrows", fn := fun _ => fun
  | [d1, d2, d3] => { results := [.lit (.bool true)], args := [d1, d2, d3] }
  | _ => none }
def weighNarrowsRow : OpenClaim := { program := "ytlakcghdehdeiaa", sum := "d1f006023f2c02d06bb8b971d2e49cdd201f9017dd443b412adec17ca0e70d7b", func := "bushel/bushellaw03.WeighNarrows", spec := "weighNarrows", unfollowed := true, recurses := true, apart := false }
def WeighNarrowsSaid : Prop := weighNarrowsRow.holds Try.pinned (OpenSpec.ofChange weighNarrowsSpec)

/-- ITS FALSE NEIGHBOUR: 'it returns false'. Refute it at one input. -/
def weighNarrowsWrong : ChangeSpec := { name := "weighNarrows", fn := fun _ => fun
  | [d1, d2, d3] => { results := [.lit (.bool false)], args := [d1, d2, d3] }
  | _ => none }
def WeighNarrowsWrongFalsely : Prop := weighNarrowsRow.holds Try.pinned (OpenSpec.ofChange weighNarrowsWrong)

/-- 'bushellaw03.WeighWitnesses': WHATEVER THE INPUT: true; the input reads as it did. -/
def weighWitnessesSpec : ChangeSpec := { name := "weighWitnesses", fn := fun _ => fun
  | [d1, d2, d3] => { results := [.lit (.bool true)], args := [d1, d2, d3] }
  | _ => none }
def weighWitnessesRow : OpenClaim := { program := "ytlakcghdehdeiaa", sum := "d1f006023f2c02d06bb8b971d2e49cdd201f9017dd443b412adec17ca0e70d7b", func := "bushel/bushellaw03.WeighWitnesses", spec := "weighWitnesses", unfollowed := true, recurses := true, apart := false }
def WeighWitnessesSaid : Prop := weighWitnessesRow.holds Try.pinned (OpenSpec.ofChange weighWitnessesSpec)

/-- ITS FALSE NEIGHBOUR: 'it returns false'. Refute it at one input. -/
def weighWitnessesWrong : ChangeSpec := { name := "weighWitnesses", fn := fun _ => fun
  | [d1, d2, d3] => { results := [.lit (.bool false)], args := [d1, d2, d3] }
  | _ => none }
def WeighWitnessesWrongFalsely : Prop := weighWitnessesRow.holds Try.pinned (OpenSpec.ofChange weighWitnessesWrong)

/-- 'bushellaw03.WeighConflicts': WHATEVER THE INPUT: true; the input reads as it did. -/
def weighConflictsSpec : ChangeSpec := { name := "weighConflicts", fn := fun _ => fun
  | [d1, d2] => { results := [.lit (.bool true)], args := [d1, d2] }
  | _ => none }
def weighConflictsRow : OpenClaim := { program := "ytlakcghdehdeiaa", sum := "d1f006023f2c02d06bb8b971d2e49cdd201f9017dd443b412adec17ca0e70d7b", func := "bushel/bushellaw03.WeighConflicts", spec := "weighConflicts", unfollowed := true, recurses := true, apart := false }
def WeighConflictsSaid : Prop := weighConflictsRow.holds Try.pinned (OpenSpec.ofChange weighConflictsSpec)

/-- ITS FALSE NEIGHBOUR: 'it returns false'. Refute it at one input. -/
def weighConflictsWrong : ChangeSpec := { name := "weighConflicts", fn := fun _ => fun
  | [d1, d2] => { results := [.lit (.bool false)], args := [d1, d2] }
  | _ => none }
def WeighConflictsWrongFalsely : Prop := weighConflictsRow.holds Try.pinned (OpenSpec.ofChange weighConflictsWrong)

/-- 'bushellaw03.WeighMinimal': WHATEVER THE INPUT: true; the input reads as it did. -/
def weighMinimalSpec : ChangeSpec := { name := "weighMinimal", fn := fun _ => fun
  | [d1, d2] => { results := [.lit (.bool true)], args := [d1, d2] }
  | _ => none }
def weighMinimalRow : OpenClaim := { program := "ytlakcghdehdeiaa", sum := "d1f006023f2c02d06bb8b971d2e49cdd201f9017dd443b412adec17ca0e70d7b", func := "bushel/bushellaw03.WeighMinimal", spec := "weighMinimal", unfollowed := true, recurses := true, apart := false }
def WeighMinimalSaid : Prop := weighMinimalRow.holds Try.pinned (OpenSpec.ofChange weighMinimalSpec)

/-- ITS FALSE NEIGHBOUR: 'it returns false'. Refute it at one input. -/
def weighMinimalWrong : ChangeSpec := { name := "weighMinimal", fn := fun _ => fun
  | [d1, d2] => { results := [.lit (.bool false)], args := [d1, d2] }
  | _ => none }
def WeighMinimalWrongFalsely : Prop := weighMinimalRow.holds Try.pinned (OpenSpec.ofChange weighMinimalWrong)

/-- 'bushellaw03.WeighNets': WHATEVER THE INPUT: true; the input reads as it did. -/
def weighNetsSpec : ChangeSpec := { name := "weighNets", fn := fun _ => fun
  | [d1, d2, d3] => { results := [.lit (.bool true)], args := [d1, d2, d3] }
  | _ => none }
def weighNetsRow : OpenClaim := { program := "ytlakcghdehdeiaa", sum := "d1f006023f2c02d06bb8b971d2e49cdd201f9017dd443b412adec17ca0e70d7b", func := "bushel/bushellaw03.WeighNets", spec := "weighNets", unfollowed := true, recurses := true, apart := false }
def WeighNetsSaid : Prop := weighNetsRow.holds Try.pinned (OpenSpec.ofChange weighNetsSpec)

/-- ITS FALSE NEIGHBOUR: 'it returns false'. Refute it at one input. -/
def weighNetsWrong : ChangeSpec := { name := "weighNets", fn := fun _ => fun
  | [d1, d2, d3] => { results := [.lit (.bool false)], args := [d1, d2, d3] }
  | _ => none }
def WeighNetsWrongFalsely : Prop := weighNetsRow.holds Try.pinned (OpenSpec.ofChange weighNetsWrong)

/-- 'bushellaw03.WeighEither': WHATEVER THE INPUT: true; the input reads as it did. -/
def weighEitherSpec : ChangeSpec := { name := "weighEither", fn := fun _ => fun
  | [d] => { results := [.lit (.bool true)], args := [d] }
  | _ => none }
def weighEitherRow : OpenClaim := { program := "ytlakcghdehdeiaa", sum := "d1f006023f2c02d06bb8b971d2e49cdd201f9017dd443b412adec17ca0e70d7b", func := "bushel/bushellaw03.WeighEither", spec := "weighEither", unfollowed := true, recurses := true, apart := false }
def WeighEitherSaid : Prop := weighEitherRow.holds Try.pinned (OpenSpec.ofChange weighEitherSpec)

/-- ITS FALSE NEIGHBOUR: 'it returns false'. Refute it at one input. -/
def weighEitherWrong : ChangeSpec := { name := "weighEither", fn := fun _ => fun
  | [d] => { results := [.lit (.bool false)], args := [d] }
  | _ => none }
def WeighEitherWrongFalsely : Prop := weighEitherRow.holds Try.pinned (OpenSpec.ofChange weighEitherWrong)

/- THE SECOND FORM. 'bulk': how many values and letters a reading holds, each counted each time it is reached (what is shared counts as often as it is met; a slice's spare places count too). A statement '..UptoSaid' is the law's where the arguments, and the package variables that the reading takes, are together of bulk at most 1048576: NARROWER than '..Said'. Prove '..Said' where nothing that the law and all that it calls make is longer than what came in: it says more and counts as full. Else prove '..UptoSaid'. A law counts once. -/
mutual
def uptoBulk {H : Type} : DataW H → Nat
  | .lit (.string bytes) => bytes.length + 1
  | .lit _ => 1
  | .nil => 1
  | .ptr d => uptoBulk d + 1
  | .slice elems spare => uptoBulkAll elems + uptoBulkAll spare + 1
  | .agg parts => uptoBulkAll parts + 1
  | .iface _ d => uptoBulk d + 1
  | .map entries => uptoBulkEntries entries + 1
  | .held _ => 1
def uptoBulkAll {H : Type} : List (DataW H) → Nat
  | [] => 0
  | d :: r => uptoBulk d + uptoBulkAll r
def uptoBulkEntries {H : Type} : List (Lit × DataW H) → Nat
  | [] => 0
  | x :: r => uptoBulkEntry x + uptoBulkEntries r
def uptoBulkEntry {H : Type} : Lit × DataW H → Nat
  | (.string bytes, d) => bytes.length + uptoBulk d + 1
  | (_, d) => uptoBulk d + 1
 end
def uptoSmall : (H : Type) → List (DataW H) → Bool := fun _ ds => decide (uptoBulkAll ds ≤ 1048576)
def OpenSpec.upto (s : _root_.Go.ChangeSpec) : _root_.Go.OpenSpec := { _root_.Go.OpenSpec.ofChange s with cond := some uptoSmall }

/-- 'bushellaw03.WeighDrifts', WHERE WHAT IT READS IS OF BULK AT MOST 1048576: true; the input reads as it did. -/
def weighDriftsUptoRow : OpenClaim := { program := "ytlakcghdehdeiaa", sum := "d1f006023f2c02d06bb8b971d2e49cdd201f9017dd443b412adec17ca0e70d7b", func := "bushel/bushellaw03.WeighDrifts", spec := "weighDrifts", unfollowed := true, recurses := true, apart := false, narrowed := true }
def WeighDriftsUptoSaid : Prop := weighDriftsUptoRow.holds Try.pinned (OpenSpec.upto weighDriftsSpec)

/-- 'bushellaw03.WeighBooks', WHERE WHAT IT READS IS OF BULK AT MOST 1048576: true; the input reads as it did. -/
def weighBooksUptoRow : OpenClaim := { program := "ytlakcghdehdeiaa", sum := "d1f006023f2c02d06bb8b971d2e49cdd201f9017dd443b412adec17ca0e70d7b", func := "bushel/bushellaw03.WeighBooks", spec := "weighBooks", unfollowed := true, recurses := true, apart := false, narrowed := true }
def WeighBooksUptoSaid : Prop := weighBooksUptoRow.holds Try.pinned (OpenSpec.upto weighBooksSpec)

/-- 'bushellaw03.WeighChanges', WHERE WHAT IT READS IS OF BULK AT MOST 1048576: true; the input reads as it did. -/
def weighChangesUptoRow : OpenClaim := { program := "ytlakcghdehdeiaa", sum := "d1f006023f2c02d06bb8b971d2e49cdd201f9017dd443b412adec17ca0e70d7b", func := "bushel/bushellaw03.WeighChanges", spec := "weighChanges", unfollowed := true, recurses := true, apart := false, narrowed := true }
def WeighChangesUptoSaid : Prop := weighChangesUptoRow.holds Try.pinned (OpenSpec.upto weighChangesSpec)

/-- 'bushellaw03.WeighSettles', WHERE WHAT IT READS IS OF BULK AT MOST 1048576: true; the input reads as it did. -/
def weighSettlesUptoRow : OpenClaim := { program := "ytlakcghdehdeiaa", sum := "d1f006023f2c02d06bb8b971d2e49cdd201f9017dd443b412adec17ca0e70d7b", func := "bushel/bushellaw03.WeighSettles", spec := "weighSettles", unfollowed := true, recurses := true, apart := false, narrowed := true }
def WeighSettlesUptoSaid : Prop := weighSettlesUptoRow.holds Try.pinned (OpenSpec.upto weighSettlesSpec)

/-- 'bushellaw03.WeighTrue', WHERE WHAT IT READS IS OF BULK AT MOST 1048576: true; the input reads as it did. -/
def weighTrueUptoRow : OpenClaim := { program := "ytlakcghdehdeiaa", sum := "d1f006023f2c02d06bb8b971d2e49cdd201f9017dd443b412adec17ca0e70d7b", func := "bushel/bushellaw03.WeighTrue", spec := "weighTrue", unfollowed := true, recurses := true, apart := false, narrowed := true }
def WeighTrueUptoSaid : Prop := weighTrueUptoRow.holds Try.pinned (OpenSpec.upto weighTrueSpec)

/-- 'bushellaw03.WeighTightens', WHERE WHAT IT READS IS OF BULK AT MOST 1048576: true; the input reads as it did. -/
def weighTightensUptoRow : OpenClaim := { program := "ytlakcghdehdeiaa", sum := "d1f006023f2c02d06bb8b971d2e49cdd201f9017dd443b412adec17ca0e70d7b", func := "bushel/bushellaw03.WeighTightens", spec := "weighTightens", unfollowed := true, recurses := true, apart := false, narrowed := true }
def WeighTightensUptoSaid : Prop := weighTightensUptoRow.holds Try.pinned (OpenSpec.upto weighTightensSpec)

/-- 'bushellaw03.WeighExhausts', WHERE WHAT IT READS IS OF BULK AT MOST 1048576: true; the input reads as it did. -/
def weighExhaustsUptoRow : OpenClaim := { program := "ytlakcghdehdeiaa", sum := "d1f006023f2c02d06bb8b971d2e49cdd201f9017dd443b412adec17ca0e70d7b", func := "bushel/bushellaw03.WeighExhausts", spec := "weighExhausts", unfollowed := true, recurses := true, apart := false, narrowed := true }
def WeighExhaustsUptoSaid : Prop := weighExhaustsUptoRow.holds Try.pinned (OpenSpec.upto weighExhaustsSpec)

/-- 'bushellaw03.WeighNarrows', WHERE WHAT IT READS IS OF BULK AT MOST 1048576: true; the input reads as it did. -/
def weighNarrowsUptoRow : OpenClaim := { program := "ytlakcghdehdeiaa", sum := "d1f006023f2c02d06bb8b971d2e49cdd201f9017dd443b412adec17ca0e70d7b", func := "bushel/bushellaw03.WeighNarrows", spec := "weighNarrows", unfollowed := true, recurses := true, apart := false, narrowed := true }
def WeighNarrowsUptoSaid : Prop := weighNarrowsUptoRow.holds Try.pinned (OpenSpec.upto weighNarrowsSpec)

/-- 'bushellaw03.WeighWitnesses', WHERE WHAT IT READS IS OF BULK AT MOST 1048576: true; the input reads as it did. -/
def weighWitnessesUptoRow : OpenClaim := { program := "ytlakcghdehdeiaa", sum := "d1f006023f2c02d06bb8b971d2e49cdd201f9017dd443b412adec17ca0e70d7b", func := "bushel/bushellaw03.WeighWitnesses", spec := "weighWitnesses", unfollowed := true, recurses := true, apart := false, narrowed := true }
def WeighWitnessesUptoSaid : Prop := weighWitnessesUptoRow.holds Try.pinned (OpenSpec.upto weighWitnessesSpec)

/-- 'bushellaw03.WeighConflicts', WHERE WHAT IT READS IS OF BULK AT MOST 1048576: true; the input reads as it did. -/
def weighConflictsUptoRow : OpenClaim := { program := "ytlakcghdehdeiaa", sum := "d1f006023f2c02d06bb8b971d2e49cdd201f9017dd443b412adec17ca0e70d7b", func := "bushel/bushellaw03.WeighConflicts", spec := "weighConflicts", unfollowed := true, recurses := true, apart := false, narrowed := true }
def WeighConflictsUptoSaid : Prop := weighConflictsUptoRow.holds Try.pinned (OpenSpec.upto weighConflictsSpec)

/-- 'bushellaw03.WeighMinimal', WHERE WHAT IT READS IS OF BULK AT MOST 1048576: true; the input reads as it did. -/
def weighMinimalUptoRow : OpenClaim := { program := "ytlakcghdehdeiaa", sum := "d1f006023f2c02d06bb8b971d2e49cdd201f9017dd443b412adec17ca0e70d7b", func := "bushel/bushellaw03.WeighMinimal", spec := "weighMinimal", unfollowed := true, recurses := true, apart := false, narrowed := true }
def WeighMinimalUptoSaid : Prop := weighMinimalUptoRow.holds Try.pinned (OpenSpec.upto weighMinimalSpec)

/-- 'bushellaw03.WeighNets', WHERE WHAT IT READS IS OF BULK AT MOST 1048576: true; the input reads as it did. -/
def weighNetsUptoRow : OpenClaim := { program := "ytlakcghdehdeiaa", sum := "d1f006023f2c02d06bb8b971d2e49cdd201f9017dd443b412adec17ca0e70d7b", func := "bushel/bushellaw03.WeighNets", spec := "weighNets", unfollowed := true, recurses := true, apart := false, narrowed := true }
def WeighNetsUptoSaid : Prop := weighNetsUptoRow.holds Try.pinned (OpenSpec.upto weighNetsSpec)

/-- 'bushellaw03.WeighEither', WHERE WHAT IT READS IS OF BULK AT MOST 1048576: true; the input reads as it did. -/
def weighEitherUptoRow : OpenClaim := { program := "ytlakcghdehdeiaa", sum := "d1f006023f2c02d06bb8b971d2e49cdd201f9017dd443b412adec17ca0e70d7b", func := "bushel/bushellaw03.WeighEither", spec := "weighEither", unfollowed := true, recurses := true, apart := false, narrowed := true }
def WeighEitherUptoSaid : Prop := weighEitherUptoRow.holds Try.pinned (OpenSpec.upto weighEitherSpec)

end Rows
end Go.Proofs.Ytlakcghdehdeiaa
