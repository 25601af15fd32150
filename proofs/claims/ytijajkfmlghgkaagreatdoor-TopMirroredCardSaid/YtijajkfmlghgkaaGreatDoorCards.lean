/-
  DERIVED. GIVEN WITH THE SEED: THE CARDS: each row of YtijajkfmlghgkaaGreatDoorRows.lean that lists a variable, with what it lists TIED to the program's text (the seventh form; the later family's looks); each row that meets fmt, with fmt's text TOLD by the authors' own Lean function (tested against real Go, not proved from fmt's source: count such statements apart). THE CARD IS WHAT COUNTS. Prove the row's statement (the work); the ties are given (YtijajkfmlghgkaaGreatDoorTie.lean); close each card by the builder's one call (the guide's Derived/Test/ToyasCard.lean, 'card_holds'). Laid BY PROGRAM, IN A SANDBOX (cutbox-door.mjs). By AI agents, Wed Nov 11 2026. No macro, syntax, notation, axiom, sorry.
-/
import Derived.Test.YtijajkfmlghgkaaGreatDoorRows
import GoSem.ClaimSeven
namespace Go.Proofs.YtijajkfmlghgkaaGreatDoor
namespace Rows

/-- THE TIED CARD OF 'busheltop.TopMixed'. -/
def topMixedCard : Claim7 := { stood := { row := topMixedRow, standIns := [], harness := (true, "56570f5a58bebd184a0d0593f2f4602075d978fd415a90881842bd3274584197"), looks := true }, kinds := [], alts := [], laidByText := true, laidKinds := [.data, .data, .data, .data, .sentinel, .sentinel, .pinned], laidTests := true, laidLooks := .later }
def TopMixedCardSaid : Prop := Claim7.holds Tryz.pinned (.plain (OpenSpec.ofChange topMixedSpec)) topMixedCard

/-- THE TIED CARD OF 'busheltop.TopSuperposed'. -/
def topSuperposedCard : Claim7 := { stood := { row := topSuperposedRow, standIns := [], harness := (true, "56570f5a58bebd184a0d0593f2f4602075d978fd415a90881842bd3274584197"), looks := true }, kinds := [], alts := [], laidByText := true, laidKinds := [.data, .data, .data, .data, .sentinel, .sentinel, .pinned], laidTests := true, laidLooks := .later }
def TopSuperposedCardSaid : Prop := Claim7.holds Tryz.pinned (.plain (OpenSpec.ofChange topSuperposedSpec)) topSuperposedCard

/-- THE TIED CARD OF 'busheltop.TopMirrored'. -/
def topMirroredCard : Claim7 := { stood := { row := topMirroredRow, standIns := [], harness := (true, "56570f5a58bebd184a0d0593f2f4602075d978fd415a90881842bd3274584197"), looks := true }, kinds := [], alts := [], laidByText := true, laidKinds := [.data, .data, .data, .data, .sentinel, .sentinel, .pinned], laidTests := true, laidLooks := .later }
def TopMirroredCardSaid : Prop := Claim7.holds Tryz.pinned (.plain (OpenSpec.ofChange topMirroredSpec)) topMirroredCard

/-- THE TIED CARD OF 'busheltop.TopFirst'. -/
def topFirstCard : Claim7 := { stood := { row := topFirstRow, standIns := [], harness := (true, "56570f5a58bebd184a0d0593f2f4602075d978fd415a90881842bd3274584197"), looks := true }, kinds := [], alts := [], laidByText := true, laidKinds := [.data, .data, .data, .data, .sentinel, .sentinel, .pinned], laidTests := true, laidLooks := .later }
def TopFirstCardSaid : Prop := Claim7.holds Tryz.pinned (.plain (OpenSpec.ofChange topFirstSpec)) topFirstCard

/-- THE TIED CARD OF 'busheltop.TopReadings'. -/
def topReadingsCard : Claim7 := { stood := { row := topReadingsRow, standIns := [], harness := (true, "56570f5a58bebd184a0d0593f2f4602075d978fd415a90881842bd3274584197"), looks := true }, kinds := [], alts := [], laidByText := true, laidKinds := [.data, .data, .data, .data, .sentinel, .sentinel, .pinned], laidTests := true, laidLooks := .later }
def TopReadingsCardSaid : Prop := Claim7.holds Tryz.pinned (.plain (OpenSpec.ofChange topReadingsSpec)) topReadingsCard

/-- THE SECOND FORM's CARD OF 'busheltop.TopMixed'. -/
def topMixedUptoCard : Claim7 := { stood := { row := topMixedUptoRow, standIns := [], harness := (true, "56570f5a58bebd184a0d0593f2f4602075d978fd415a90881842bd3274584197"), looks := true }, kinds := [], alts := [], laidByText := true, laidKinds := [.data, .data, .data, .data, .sentinel, .sentinel, .pinned], laidTests := true, laidLooks := .later }
def TopMixedUptoCardSaid : Prop := Claim7.holds Tryz.pinned (.plain (OpenSpec.upto topMixedSpec)) topMixedUptoCard

/-- THE SECOND FORM's CARD OF 'busheltop.TopSuperposed'. -/
def topSuperposedUptoCard : Claim7 := { stood := { row := topSuperposedUptoRow, standIns := [], harness := (true, "56570f5a58bebd184a0d0593f2f4602075d978fd415a90881842bd3274584197"), looks := true }, kinds := [], alts := [], laidByText := true, laidKinds := [.data, .data, .data, .data, .sentinel, .sentinel, .pinned], laidTests := true, laidLooks := .later }
def TopSuperposedUptoCardSaid : Prop := Claim7.holds Tryz.pinned (.plain (OpenSpec.upto topSuperposedSpec)) topSuperposedUptoCard

/-- THE SECOND FORM's CARD OF 'busheltop.TopMirrored'. -/
def topMirroredUptoCard : Claim7 := { stood := { row := topMirroredUptoRow, standIns := [], harness := (true, "56570f5a58bebd184a0d0593f2f4602075d978fd415a90881842bd3274584197"), looks := true }, kinds := [], alts := [], laidByText := true, laidKinds := [.data, .data, .data, .data, .sentinel, .sentinel, .pinned], laidTests := true, laidLooks := .later }
def TopMirroredUptoCardSaid : Prop := Claim7.holds Tryz.pinned (.plain (OpenSpec.upto topMirroredSpec)) topMirroredUptoCard

/-- THE SECOND FORM's CARD OF 'busheltop.TopFirst'. -/
def topFirstUptoCard : Claim7 := { stood := { row := topFirstUptoRow, standIns := [], harness := (true, "56570f5a58bebd184a0d0593f2f4602075d978fd415a90881842bd3274584197"), looks := true }, kinds := [], alts := [], laidByText := true, laidKinds := [.data, .data, .data, .data, .sentinel, .sentinel, .pinned], laidTests := true, laidLooks := .later }
def TopFirstUptoCardSaid : Prop := Claim7.holds Tryz.pinned (.plain (OpenSpec.upto topFirstSpec)) topFirstUptoCard

/-- THE SECOND FORM's CARD OF 'busheltop.TopReadings'. -/
def topReadingsUptoCard : Claim7 := { stood := { row := topReadingsUptoRow, standIns := [], harness := (true, "56570f5a58bebd184a0d0593f2f4602075d978fd415a90881842bd3274584197"), looks := true }, kinds := [], alts := [], laidByText := true, laidKinds := [.data, .data, .data, .data, .sentinel, .sentinel, .pinned], laidTests := true, laidLooks := .later }
def TopReadingsUptoCardSaid : Prop := Claim7.holds Tryz.pinned (.plain (OpenSpec.upto topReadingsSpec)) topReadingsUptoCard
end Rows
end Go.Proofs.YtijajkfmlghgkaaGreatDoor
