/-
  DERIVED. GIVEN WITH THE SEED: THE CARDS: each row of YtahpdkkpnkhnhaaGreatDoorRows.lean that lists a variable, with what it lists TIED to the program's text (the seventh form; the later family's looks); each row that meets fmt, with fmt's text TOLD by the authors' own Lean function (tested against real Go, not proved from fmt's source: count such statements apart). THE CARD IS WHAT COUNTS. Prove the row's statement (the work); the ties are given (YtahpdkkpnkhnhaaGreatDoorTie.lean); close each card by the builder's one call (the guide's Derived/Test/ToyasCard.lean, 'card_holds'). Laid BY PROGRAM, IN A SANDBOX (cutbox-door.mjs). By AI agents, Wed Nov 11 2026. No macro, syntax, notation, axiom, sorry.
-/
import Derived.Test.YtahpdkkpnkhnhaaGreatDoorRows
import GoSem.ClaimSeven
namespace Go.Proofs.YtahpdkkpnkhnhaaGreatDoor
namespace Rows

/-- THE TIED CARD OF 'bushellaw05.PathRoutes'. -/
def pathRoutesCard : Claim7 := { stood := { row := pathRoutesRow, standIns := [], harness := (true, "ac00eac5f5683b08c0d279b686f308d95ee1a0f048c2ebbbd23f484f4232b770"), looks := false }, kinds := [], alts := [], laidByText := true, laidKinds := [.widerDeep], laidTests := true, laidLooks := .later }
def PathRoutesCardSaid : Prop := Claim7.holds Tryz.pinned (.plain (OpenSpec.ofChange pathRoutesSpec)) pathRoutesCard

/-- THE TIED CARD OF 'bushellaw05.PathStarts'. -/
def pathStartsCard : Claim7 := { stood := { row := pathStartsRow, standIns := [], harness := (true, "ac00eac5f5683b08c0d279b686f308d95ee1a0f048c2ebbbd23f484f4232b770"), looks := false }, kinds := [], alts := [], laidByText := true, laidKinds := [.widerDeep], laidTests := true, laidLooks := .later }
def PathStartsCardSaid : Prop := Claim7.holds Tryz.pinned (.plain (OpenSpec.ofChange pathStartsSpec)) pathStartsCard

/-- THE TIED CARD OF 'bushellaw05.PathPlants'. -/
def pathPlantsCard : Claim7 := { stood := { row := pathPlantsRow, standIns := [], harness := (true, "ac00eac5f5683b08c0d279b686f308d95ee1a0f048c2ebbbd23f484f4232b770"), looks := false }, kinds := [], alts := [], laidByText := true, laidKinds := [.widerDeep], laidTests := true, laidLooks := .later }
def PathPlantsCardSaid : Prop := Claim7.holds Tryz.pinned (.plain (OpenSpec.ofChange pathPlantsSpec)) pathPlantsCard

/-- THE TIED CARD OF 'bushellaw05.PathStates'. -/
def pathStatesCard : Claim7 := { stood := { row := pathStatesRow, standIns := [], harness := (true, "ac00eac5f5683b08c0d279b686f308d95ee1a0f048c2ebbbd23f484f4232b770"), looks := false }, kinds := [], alts := [], laidByText := true, laidKinds := [.widerDeep], laidTests := true, laidLooks := .later }
def PathStatesCardSaid : Prop := Claim7.holds Tryz.pinned (.plain (OpenSpec.ofChange pathStatesSpec)) pathStatesCard

/-- THE TIED CARD OF 'bushellaw05.PathStops'. -/
def pathStopsCard : Claim7 := { stood := { row := pathStopsRow, standIns := [], harness := (true, "ac00eac5f5683b08c0d279b686f308d95ee1a0f048c2ebbbd23f484f4232b770"), looks := false }, kinds := [], alts := [], laidByText := true, laidKinds := [.widerDeep], laidTests := true, laidLooks := .later }
def PathStopsCardSaid : Prop := Claim7.holds Tryz.pinned (.plain (OpenSpec.ofChange pathStopsSpec)) pathStopsCard

/-- THE TIED CARD OF 'bushellaw05.PathSchedules'. -/
def pathSchedulesCard : Claim7 := { stood := { row := pathSchedulesRow, standIns := [], harness := (true, "ac00eac5f5683b08c0d279b686f308d95ee1a0f048c2ebbbd23f484f4232b770"), looks := false }, kinds := [], alts := [], laidByText := true, laidKinds := [.widerDeep], laidTests := true, laidLooks := .later }
def PathSchedulesCardSaid : Prop := Claim7.holds Tryz.pinned (.plain (OpenSpec.ofChange pathSchedulesSpec)) pathSchedulesCard

/-- THE TIED CARD OF 'bushellaw05.PathBottlenecks'. -/
def pathBottlenecksCard : Claim7 := { stood := { row := pathBottlenecksRow, standIns := [], harness := (true, "ac00eac5f5683b08c0d279b686f308d95ee1a0f048c2ebbbd23f484f4232b770"), looks := false }, kinds := [], alts := [], laidByText := true, laidKinds := [.widerDeep], laidTests := true, laidLooks := .later }
def PathBottlenecksCardSaid : Prop := Claim7.holds Tryz.pinned (.plain (OpenSpec.ofChange pathBottlenecksSpec)) pathBottlenecksCard

/-- THE TIED CARD OF 'bushellaw05.PathNeverMeets'. -/
def pathNeverMeetsCard : Claim7 := { stood := { row := pathNeverMeetsRow, standIns := [], harness := (true, "ac00eac5f5683b08c0d279b686f308d95ee1a0f048c2ebbbd23f484f4232b770"), looks := false }, kinds := [], alts := [], laidByText := true, laidKinds := [.widerDeep], laidTests := true, laidLooks := .later }
def PathNeverMeetsCardSaid : Prop := Claim7.holds Tryz.pinned (.plain (OpenSpec.ofChange pathNeverMeetsSpec)) pathNeverMeetsCard

/-- THE TIED CARD OF 'bushellaw05.PathCleans'. -/
def pathCleansCard : Claim7 := { stood := { row := pathCleansRow, standIns := [], harness := (true, "ac00eac5f5683b08c0d279b686f308d95ee1a0f048c2ebbbd23f484f4232b770"), looks := false }, kinds := [], alts := [], laidByText := true, laidKinds := [.widerDeep], laidTests := true, laidLooks := .later }
def PathCleansCardSaid : Prop := Claim7.holds Tryz.pinned (.plain (OpenSpec.ofChange pathCleansSpec)) pathCleansCard

/-- THE TIED CARD OF 'bushellaw05.PathBests'. -/
def pathBestsCard : Claim7 := { stood := { row := pathBestsRow, standIns := [], harness := (true, "ac00eac5f5683b08c0d279b686f308d95ee1a0f048c2ebbbd23f484f4232b770"), looks := false }, kinds := [], alts := [], laidByText := true, laidKinds := [.widerDeep], laidTests := true, laidLooks := .later }
def PathBestsCardSaid : Prop := Claim7.holds Tryz.pinned (.plain (OpenSpec.ofChange pathBestsSpec)) pathBestsCard

/-- THE TIED CARD OF 'bushellaw05.PathClaims'. -/
def pathClaimsCard : Claim7 := { stood := { row := pathClaimsRow, standIns := [], harness := (true, "ac00eac5f5683b08c0d279b686f308d95ee1a0f048c2ebbbd23f484f4232b770"), looks := false }, kinds := [], alts := [], laidByText := true, laidKinds := [.widerDeep], laidTests := true, laidLooks := .later }
def PathClaimsCardSaid : Prop := Claim7.holds Tryz.pinned (.plain (OpenSpec.ofChange pathClaimsSpec)) pathClaimsCard

/-- THE TIED CARD OF 'bushellaw05.PathEarliest'. -/
def pathEarliestCard : Claim7 := { stood := { row := pathEarliestRow, standIns := [], harness := (true, "ac00eac5f5683b08c0d279b686f308d95ee1a0f048c2ebbbd23f484f4232b770"), looks := false }, kinds := [], alts := [], laidByText := true, laidKinds := [.widerDeep], laidTests := true, laidLooks := .later }
def PathEarliestCardSaid : Prop := Claim7.holds Tryz.pinned (.plain (OpenSpec.ofChange pathEarliestSpec)) pathEarliestCard

/-- THE TIED CARD OF 'bushellaw05.PathMenger'. -/
def pathMengerCard : Claim7 := { stood := { row := pathMengerRow, standIns := [], harness := (true, "ac00eac5f5683b08c0d279b686f308d95ee1a0f048c2ebbbd23f484f4232b770"), looks := false }, kinds := [], alts := [], laidByText := true, laidKinds := [.widerDeep], laidTests := true, laidLooks := .later }
def PathMengerCardSaid : Prop := Claim7.holds Tryz.pinned (.plain (OpenSpec.ofChange pathMengerSpec)) pathMengerCard

/-- THE SECOND FORM's CARD OF 'bushellaw05.PathRoutes'. -/
def pathRoutesUptoCard : Claim7 := { stood := { row := pathRoutesUptoRow, standIns := [], harness := (true, "ac00eac5f5683b08c0d279b686f308d95ee1a0f048c2ebbbd23f484f4232b770"), looks := false }, kinds := [], alts := [], laidByText := true, laidKinds := [.widerDeep], laidTests := true, laidLooks := .later }
def PathRoutesUptoCardSaid : Prop := Claim7.holds Tryz.pinned (.plain (OpenSpec.upto pathRoutesSpec)) pathRoutesUptoCard

/-- THE SECOND FORM's CARD OF 'bushellaw05.PathStarts'. -/
def pathStartsUptoCard : Claim7 := { stood := { row := pathStartsUptoRow, standIns := [], harness := (true, "ac00eac5f5683b08c0d279b686f308d95ee1a0f048c2ebbbd23f484f4232b770"), looks := false }, kinds := [], alts := [], laidByText := true, laidKinds := [.widerDeep], laidTests := true, laidLooks := .later }
def PathStartsUptoCardSaid : Prop := Claim7.holds Tryz.pinned (.plain (OpenSpec.upto pathStartsSpec)) pathStartsUptoCard

/-- THE SECOND FORM's CARD OF 'bushellaw05.PathPlants'. -/
def pathPlantsUptoCard : Claim7 := { stood := { row := pathPlantsUptoRow, standIns := [], harness := (true, "ac00eac5f5683b08c0d279b686f308d95ee1a0f048c2ebbbd23f484f4232b770"), looks := false }, kinds := [], alts := [], laidByText := true, laidKinds := [.widerDeep], laidTests := true, laidLooks := .later }
def PathPlantsUptoCardSaid : Prop := Claim7.holds Tryz.pinned (.plain (OpenSpec.upto pathPlantsSpec)) pathPlantsUptoCard

/-- THE SECOND FORM's CARD OF 'bushellaw05.PathStates'. -/
def pathStatesUptoCard : Claim7 := { stood := { row := pathStatesUptoRow, standIns := [], harness := (true, "ac00eac5f5683b08c0d279b686f308d95ee1a0f048c2ebbbd23f484f4232b770"), looks := false }, kinds := [], alts := [], laidByText := true, laidKinds := [.widerDeep], laidTests := true, laidLooks := .later }
def PathStatesUptoCardSaid : Prop := Claim7.holds Tryz.pinned (.plain (OpenSpec.upto pathStatesSpec)) pathStatesUptoCard

/-- THE SECOND FORM's CARD OF 'bushellaw05.PathStops'. -/
def pathStopsUptoCard : Claim7 := { stood := { row := pathStopsUptoRow, standIns := [], harness := (true, "ac00eac5f5683b08c0d279b686f308d95ee1a0f048c2ebbbd23f484f4232b770"), looks := false }, kinds := [], alts := [], laidByText := true, laidKinds := [.widerDeep], laidTests := true, laidLooks := .later }
def PathStopsUptoCardSaid : Prop := Claim7.holds Tryz.pinned (.plain (OpenSpec.upto pathStopsSpec)) pathStopsUptoCard

/-- THE SECOND FORM's CARD OF 'bushellaw05.PathSchedules'. -/
def pathSchedulesUptoCard : Claim7 := { stood := { row := pathSchedulesUptoRow, standIns := [], harness := (true, "ac00eac5f5683b08c0d279b686f308d95ee1a0f048c2ebbbd23f484f4232b770"), looks := false }, kinds := [], alts := [], laidByText := true, laidKinds := [.widerDeep], laidTests := true, laidLooks := .later }
def PathSchedulesUptoCardSaid : Prop := Claim7.holds Tryz.pinned (.plain (OpenSpec.upto pathSchedulesSpec)) pathSchedulesUptoCard

/-- THE SECOND FORM's CARD OF 'bushellaw05.PathBottlenecks'. -/
def pathBottlenecksUptoCard : Claim7 := { stood := { row := pathBottlenecksUptoRow, standIns := [], harness := (true, "ac00eac5f5683b08c0d279b686f308d95ee1a0f048c2ebbbd23f484f4232b770"), looks := false }, kinds := [], alts := [], laidByText := true, laidKinds := [.widerDeep], laidTests := true, laidLooks := .later }
def PathBottlenecksUptoCardSaid : Prop := Claim7.holds Tryz.pinned (.plain (OpenSpec.upto pathBottlenecksSpec)) pathBottlenecksUptoCard

/-- THE SECOND FORM's CARD OF 'bushellaw05.PathNeverMeets'. -/
def pathNeverMeetsUptoCard : Claim7 := { stood := { row := pathNeverMeetsUptoRow, standIns := [], harness := (true, "ac00eac5f5683b08c0d279b686f308d95ee1a0f048c2ebbbd23f484f4232b770"), looks := false }, kinds := [], alts := [], laidByText := true, laidKinds := [.widerDeep], laidTests := true, laidLooks := .later }
def PathNeverMeetsUptoCardSaid : Prop := Claim7.holds Tryz.pinned (.plain (OpenSpec.upto pathNeverMeetsSpec)) pathNeverMeetsUptoCard

/-- THE SECOND FORM's CARD OF 'bushellaw05.PathCleans'. -/
def pathCleansUptoCard : Claim7 := { stood := { row := pathCleansUptoRow, standIns := [], harness := (true, "ac00eac5f5683b08c0d279b686f308d95ee1a0f048c2ebbbd23f484f4232b770"), looks := false }, kinds := [], alts := [], laidByText := true, laidKinds := [.widerDeep], laidTests := true, laidLooks := .later }
def PathCleansUptoCardSaid : Prop := Claim7.holds Tryz.pinned (.plain (OpenSpec.upto pathCleansSpec)) pathCleansUptoCard

/-- THE SECOND FORM's CARD OF 'bushellaw05.PathBests'. -/
def pathBestsUptoCard : Claim7 := { stood := { row := pathBestsUptoRow, standIns := [], harness := (true, "ac00eac5f5683b08c0d279b686f308d95ee1a0f048c2ebbbd23f484f4232b770"), looks := false }, kinds := [], alts := [], laidByText := true, laidKinds := [.widerDeep], laidTests := true, laidLooks := .later }
def PathBestsUptoCardSaid : Prop := Claim7.holds Tryz.pinned (.plain (OpenSpec.upto pathBestsSpec)) pathBestsUptoCard

/-- THE SECOND FORM's CARD OF 'bushellaw05.PathClaims'. -/
def pathClaimsUptoCard : Claim7 := { stood := { row := pathClaimsUptoRow, standIns := [], harness := (true, "ac00eac5f5683b08c0d279b686f308d95ee1a0f048c2ebbbd23f484f4232b770"), looks := false }, kinds := [], alts := [], laidByText := true, laidKinds := [.widerDeep], laidTests := true, laidLooks := .later }
def PathClaimsUptoCardSaid : Prop := Claim7.holds Tryz.pinned (.plain (OpenSpec.upto pathClaimsSpec)) pathClaimsUptoCard

/-- THE SECOND FORM's CARD OF 'bushellaw05.PathEarliest'. -/
def pathEarliestUptoCard : Claim7 := { stood := { row := pathEarliestUptoRow, standIns := [], harness := (true, "ac00eac5f5683b08c0d279b686f308d95ee1a0f048c2ebbbd23f484f4232b770"), looks := false }, kinds := [], alts := [], laidByText := true, laidKinds := [.widerDeep], laidTests := true, laidLooks := .later }
def PathEarliestUptoCardSaid : Prop := Claim7.holds Tryz.pinned (.plain (OpenSpec.upto pathEarliestSpec)) pathEarliestUptoCard

/-- THE SECOND FORM's CARD OF 'bushellaw05.PathMenger'. -/
def pathMengerUptoCard : Claim7 := { stood := { row := pathMengerUptoRow, standIns := [], harness := (true, "ac00eac5f5683b08c0d279b686f308d95ee1a0f048c2ebbbd23f484f4232b770"), looks := false }, kinds := [], alts := [], laidByText := true, laidKinds := [.widerDeep], laidTests := true, laidLooks := .later }
def PathMengerUptoCardSaid : Prop := Claim7.holds Tryz.pinned (.plain (OpenSpec.upto pathMengerSpec)) pathMengerUptoCard
end Rows
end Go.Proofs.YtahpdkkpnkhnhaaGreatDoor
