/-
  DERIVED. GIVEN WITH THE SEED: THE CARDS: each row of YtflchbejjofppaaGreatDoorRows.lean that lists a variable, with what it lists TIED to the program's text (the seventh form; the later family's looks); each row that meets fmt, with fmt's text TOLD by the authors' own Lean function (tested against real Go, not proved from fmt's source: count such statements apart). THE CARD IS WHAT COUNTS. Prove the row's statement (the work); the ties are given (YtflchbejjofppaaGreatDoorTie.lean); close each card by the builder's one call (the guide's Derived/Test/ToyasCard.lean, 'card_holds'). Laid BY PROGRAM, IN A SANDBOX (cutbox-door.mjs). By AI agents, Wed Nov 11 2026. No macro, syntax, notation, axiom, sorry.
-/
import Derived.Test.YtflchbejjofppaaGreatDoorRows
import GoSem.ClaimSeven
namespace Go.Proofs.YtflchbejjofppaaGreatDoor
namespace Rows

/-- THE TIED CARD OF 'busheltop.TopChanges'. -/
def topChangesCard : Claim7 := { stood := { row := topChangesRow, standIns := [], harness := (true, "8e7e3764f6950079f5466dcf6b3cec18a754da7a5f53394dbf1cb53333002038"), looks := true }, kinds := [], alts := [], laidByText := true, laidKinds := [.data, .data, .data, .data, .sentinel, .sentinel, .pinned], laidTests := true, laidLooks := .later }
def TopChangesCardSaid : Prop := Claim7.holds Tryz.pinned (.plain (OpenSpec.ofChange topChangesSpec)) topChangesCard

/-- THE TIED CARD OF 'busheltop.TopScales'. -/
def topScalesCard : Claim7 := { stood := { row := topScalesRow, standIns := [], harness := (true, "8e7e3764f6950079f5466dcf6b3cec18a754da7a5f53394dbf1cb53333002038"), looks := true }, kinds := [], alts := [], laidByText := true, laidKinds := [.data, .data, .data, .data, .sentinel, .sentinel, .pinned], laidTests := true, laidLooks := .later }
def TopScalesCardSaid : Prop := Claim7.holds Tryz.pinned (.plain (OpenSpec.ofChange topScalesSpec)) topScalesCard

/-- THE SECOND FORM's CARD OF 'busheltop.TopChanges'. -/
def topChangesUptoCard : Claim7 := { stood := { row := topChangesUptoRow, standIns := [], harness := (true, "8e7e3764f6950079f5466dcf6b3cec18a754da7a5f53394dbf1cb53333002038"), looks := true }, kinds := [], alts := [], laidByText := true, laidKinds := [.data, .data, .data, .data, .sentinel, .sentinel, .pinned], laidTests := true, laidLooks := .later }
def TopChangesUptoCardSaid : Prop := Claim7.holds Tryz.pinned (.plain (OpenSpec.upto topChangesSpec)) topChangesUptoCard

/-- THE SECOND FORM's CARD OF 'busheltop.TopScales'. -/
def topScalesUptoCard : Claim7 := { stood := { row := topScalesUptoRow, standIns := [], harness := (true, "8e7e3764f6950079f5466dcf6b3cec18a754da7a5f53394dbf1cb53333002038"), looks := true }, kinds := [], alts := [], laidByText := true, laidKinds := [.data, .data, .data, .data, .sentinel, .sentinel, .pinned], laidTests := true, laidLooks := .later }
def TopScalesUptoCardSaid : Prop := Claim7.holds Tryz.pinned (.plain (OpenSpec.upto topScalesSpec)) topScalesUptoCard
end Rows
end Go.Proofs.YtflchbejjofppaaGreatDoor
