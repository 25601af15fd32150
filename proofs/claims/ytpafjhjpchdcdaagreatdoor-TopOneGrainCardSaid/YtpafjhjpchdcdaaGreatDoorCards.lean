/-
  DERIVED. GIVEN WITH THE SEED: THE CARDS: each row of YtpafjhjpchdcdaaGreatDoorRows.lean that lists a variable, with what it lists TIED to the program's text (the seventh form; the later family's looks); each row that meets fmt, with fmt's text TOLD by the authors' own Lean function (tested against real Go, not proved from fmt's source: count such statements apart). THE CARD IS WHAT COUNTS. Prove the row's statement (the work); the ties are given (YtpafjhjpchdcdaaGreatDoorTie.lean); close each card by the builder's one call (the guide's Derived/Test/ToyasCard.lean, 'card_holds'). Laid BY PROGRAM, IN A SANDBOX (cutbox-door.mjs). By AI agents, Wed Nov 11 2026. No macro, syntax, notation, axiom, sorry.
-/
import Derived.Test.YtpafjhjpchdcdaaGreatDoorRows
import GoSem.ClaimSeven
namespace Go.Proofs.YtpafjhjpchdcdaaGreatDoor
namespace Rows

/-- THE TIED CARD OF 'busheltop.TopOneGrain'. -/
def topOneGrainCard : Claim7 := { stood := { row := topOneGrainRow, standIns := [], harness := (true, "c0fd59e634234332bac18c3ecb4ff05003642a2ce19417b705a47b03488c66b3"), looks := true }, kinds := [], alts := [], laidByText := true, laidKinds := [.data, .data, .data, .data, .sentinel, .sentinel, .widerDeep, .pinned], laidTests := true, laidLooks := .later }
def TopOneGrainCardSaid : Prop := Claim7.holds Tryz.pinned (.plain (OpenSpec.ofChange topOneGrainSpec)) topOneGrainCard

/-- THE SECOND FORM's CARD OF 'busheltop.TopOneGrain'. -/
def topOneGrainUptoCard : Claim7 := { stood := { row := topOneGrainUptoRow, standIns := [], harness := (true, "c0fd59e634234332bac18c3ecb4ff05003642a2ce19417b705a47b03488c66b3"), looks := true }, kinds := [], alts := [], laidByText := true, laidKinds := [.data, .data, .data, .data, .sentinel, .sentinel, .widerDeep, .pinned], laidTests := true, laidLooks := .later }
def TopOneGrainUptoCardSaid : Prop := Claim7.holds Tryz.pinned (.plain (OpenSpec.upto topOneGrainSpec)) topOneGrainUptoCard
end Rows
end Go.Proofs.YtpafjhjpchdcdaaGreatDoor
