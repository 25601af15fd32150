/-
  NARROWER THAN 'FOR EVERY INPUT', by the rows' own cells (each row's printed sentence says how): PathRoutes: laid · PathStarts: laid · PathPlants: laid · PathStates: laid · PathStops: laid · PathSchedules: laid · PathBottlenecks: laid · PathNeverMeets: laid · PathCleans: laid · PathBests: laid · PathClaims: laid · PathEarliest: laid · PathMenger: laid.
  DERIVED. THE GIVEN ROWS OF THIS SEAT. 13 by the template 'for every input the law returns true; each argument reads behind the call as it read before'; 0 by the template 'total and deterministic' (their statements: YtahpdkkpnkhnhaaGreatDoorTotals.lean).
  GIVEN WITH THE SEED: the statements are not yours to turn. If you find one false, say at which input.
  Laid BY PROGRAM, IN A SANDBOX (cutbox-rows.mjs): the forced cells as the released guide's own fill.sh prints them over the translation 2173589ce5802b7c… (all of the seat's roots in one cut). By AI agents, Wed Nov 11 2026. No macro, syntax, notation, axiom, sorry.
-/
import Derived.Test.YtahpdkkpnkhnhaaGreatDoorChecked
import GoSem.Claim
import GoSem.ClaimJoined
import GoSem.ClaimMapViews
import Derived.JoinedTies
import Derived.KernelRfl
namespace Go.Proofs.YtahpdkkpnkhnhaaGreatDoor
/- THE CELL 'sum', in the pinned program and in every row, IS THE sha256 OF THE DUMP (.gsa) THAT YtahpdkkpnkhnhaaGreatDoorProg.lean LOADS. Nothing in Lean hashes anything: it is a label: what it is worth is what the hold of that sum in a sandbox is worth. -/
noncomputable def Tryz.pinned : Pinned := { name := "ytahpdkkpnkhnhaagreatdoor", sum := "2173589ce5802b7c0d751346f4ce4a8642c7300b3b6031140f9cf6e3dd4f8832", checked := Tryz.checked }
namespace Rows
def none {H : Type} : Left H := { results := [], args := [] }

/- WHAT THE LISTED PACKAGE-LEVEL VARIABLES READ AS WHEN THE CALL BEGINS. Each datum BY PROGRAM (the guide's laid-datum.mjs) off the statement by which the dump's own 'gosem.cut.vars' lays the variable. In a bare row this is a premise. The card (YtahpdkkpnkhnhaaGreatDoorCards.lean) ties it to the program's text. -/
def laid_bushel_path_words {H : Type} : DataW H := .agg [.lit (.string [112, 105, 116]), .lit (.string [98, 105, 110]), .lit (.string [115, 112, 111, 117, 116]), .lit (.string [98, 101, 108, 116]), .lit (.string [108, 101, 103]), .lit (.string [103, 97, 116, 101]), .lit (.string [100, 105, 115, 116, 114, 105, 98, 117, 116, 111, 114]), .lit (.string [115, 99, 97, 108, 101])]

/-- 'bushellaw05.PathRoutes': WHATEVER THE INPUT: true; the input reads as it did. -/
def pathRoutesSpec : ChangeSpec := { name := "pathRoutes", fn := fun _ => fun
  | [d1, d2] => { results := [.lit (.bool true)], args := [d1, d2] }
  | _ => none }
def pathRoutesRow : OpenClaim := { program := "ytahpdkkpnkhnhaagreatdoor", sum := "2173589ce5802b7c0d751346f4ce4a8642c7300b3b6031140f9cf6e3dd4f8832", func := "bushel/bushellaw05.PathRoutes", spec := "pathRoutes", unfollowed := true, recurses := true, named := ["bushel/path.words"], apart := false, laid := [("bushel/path.words", laid_bushel_path_words)] }
def PathRoutesSaid : Prop := pathRoutesRow.holds Tryz.pinned (OpenSpec.ofChange pathRoutesSpec)

/-- ITS FALSE NEIGHBOUR: 'it returns false'. Refute it at one input. -/
def pathRoutesWrong : ChangeSpec := { name := "pathRoutes", fn := fun _ => fun
  | [d1, d2] => { results := [.lit (.bool false)], args := [d1, d2] }
  | _ => none }
def PathRoutesWrongFalsely : Prop := pathRoutesRow.holds Tryz.pinned (OpenSpec.ofChange pathRoutesWrong)

/-- 'bushellaw05.PathStarts': WHATEVER THE INPUT: true; the input reads as it did. -/
def pathStartsSpec : ChangeSpec := { name := "pathStarts", fn := fun _ => fun
  | [d1, d2, d3] => { results := [.lit (.bool true)], args := [d1, d2, d3] }
  | _ => none }
def pathStartsRow : OpenClaim := { program := "ytahpdkkpnkhnhaagreatdoor", sum := "2173589ce5802b7c0d751346f4ce4a8642c7300b3b6031140f9cf6e3dd4f8832", func := "bushel/bushellaw05.PathStarts", spec := "pathStarts", unfollowed := true, recurses := true, named := ["bushel/path.words"], apart := false, laid := [("bushel/path.words", laid_bushel_path_words)] }
def PathStartsSaid : Prop := pathStartsRow.holds Tryz.pinned (OpenSpec.ofChange pathStartsSpec)

/-- ITS FALSE NEIGHBOUR: 'it returns false'. Refute it at one input. -/
def pathStartsWrong : ChangeSpec := { name := "pathStarts", fn := fun _ => fun
  | [d1, d2, d3] => { results := [.lit (.bool false)], args := [d1, d2, d3] }
  | _ => none }
def PathStartsWrongFalsely : Prop := pathStartsRow.holds Tryz.pinned (OpenSpec.ofChange pathStartsWrong)

/-- 'bushellaw05.PathPlants': WHATEVER THE INPUT: true; the input reads as it did. -/
def pathPlantsSpec : ChangeSpec := { name := "pathPlants", fn := fun _ => fun
  | [d1, d2] => { results := [.lit (.bool true)], args := [d1, d2] }
  | _ => none }
def pathPlantsRow : OpenClaim := { program := "ytahpdkkpnkhnhaagreatdoor", sum := "2173589ce5802b7c0d751346f4ce4a8642c7300b3b6031140f9cf6e3dd4f8832", func := "bushel/bushellaw05.PathPlants", spec := "pathPlants", unfollowed := true, recurses := true, named := ["bushel/path.words"], apart := false, laid := [("bushel/path.words", laid_bushel_path_words)] }
def PathPlantsSaid : Prop := pathPlantsRow.holds Tryz.pinned (OpenSpec.ofChange pathPlantsSpec)

/-- ITS FALSE NEIGHBOUR: 'it returns false'. Refute it at one input. -/
def pathPlantsWrong : ChangeSpec := { name := "pathPlants", fn := fun _ => fun
  | [d1, d2] => { results := [.lit (.bool false)], args := [d1, d2] }
  | _ => none }
def PathPlantsWrongFalsely : Prop := pathPlantsRow.holds Tryz.pinned (OpenSpec.ofChange pathPlantsWrong)

/-- 'bushellaw05.PathStates': WHATEVER THE INPUT: true; the input reads as it did. -/
def pathStatesSpec : ChangeSpec := { name := "pathStates", fn := fun _ => fun
  | [d1, d2, d3] => { results := [.lit (.bool true)], args := [d1, d2, d3] }
  | _ => none }
def pathStatesRow : OpenClaim := { program := "ytahpdkkpnkhnhaagreatdoor", sum := "2173589ce5802b7c0d751346f4ce4a8642c7300b3b6031140f9cf6e3dd4f8832", func := "bushel/bushellaw05.PathStates", spec := "pathStates", unfollowed := true, recurses := true, named := ["bushel/path.words"], apart := false, laid := [("bushel/path.words", laid_bushel_path_words)] }
def PathStatesSaid : Prop := pathStatesRow.holds Tryz.pinned (OpenSpec.ofChange pathStatesSpec)

/-- ITS FALSE NEIGHBOUR: 'it returns false'. Refute it at one input. -/
def pathStatesWrong : ChangeSpec := { name := "pathStates", fn := fun _ => fun
  | [d1, d2, d3] => { results := [.lit (.bool false)], args := [d1, d2, d3] }
  | _ => none }
def PathStatesWrongFalsely : Prop := pathStatesRow.holds Tryz.pinned (OpenSpec.ofChange pathStatesWrong)

/-- 'bushellaw05.PathStops': WHATEVER THE INPUT: true; the input reads as it did. -/
def pathStopsSpec : ChangeSpec := { name := "pathStops", fn := fun _ => fun
  | [d1, d2, d3] => { results := [.lit (.bool true)], args := [d1, d2, d3] }
  | _ => none }
def pathStopsRow : OpenClaim := { program := "ytahpdkkpnkhnhaagreatdoor", sum := "2173589ce5802b7c0d751346f4ce4a8642c7300b3b6031140f9cf6e3dd4f8832", func := "bushel/bushellaw05.PathStops", spec := "pathStops", unfollowed := true, recurses := true, named := ["bushel/path.words"], apart := false, laid := [("bushel/path.words", laid_bushel_path_words)] }
def PathStopsSaid : Prop := pathStopsRow.holds Tryz.pinned (OpenSpec.ofChange pathStopsSpec)

/-- ITS FALSE NEIGHBOUR: 'it returns false'. Refute it at one input. -/
def pathStopsWrong : ChangeSpec := { name := "pathStops", fn := fun _ => fun
  | [d1, d2, d3] => { results := [.lit (.bool false)], args := [d1, d2, d3] }
  | _ => none }
def PathStopsWrongFalsely : Prop := pathStopsRow.holds Tryz.pinned (OpenSpec.ofChange pathStopsWrong)

/-- 'bushellaw05.PathSchedules': WHATEVER THE INPUT: true; the input reads as it did. -/
def pathSchedulesSpec : ChangeSpec := { name := "pathSchedules", fn := fun _ => fun
  | [d1, d2, d3] => { results := [.lit (.bool true)], args := [d1, d2, d3] }
  | _ => none }
def pathSchedulesRow : OpenClaim := { program := "ytahpdkkpnkhnhaagreatdoor", sum := "2173589ce5802b7c0d751346f4ce4a8642c7300b3b6031140f9cf6e3dd4f8832", func := "bushel/bushellaw05.PathSchedules", spec := "pathSchedules", unfollowed := true, recurses := true, named := ["bushel/path.words"], apart := false, laid := [("bushel/path.words", laid_bushel_path_words)] }
def PathSchedulesSaid : Prop := pathSchedulesRow.holds Tryz.pinned (OpenSpec.ofChange pathSchedulesSpec)

/-- ITS FALSE NEIGHBOUR: 'it returns false'. Refute it at one input. -/
def pathSchedulesWrong : ChangeSpec := { name := "pathSchedules", fn := fun _ => fun
  | [d1, d2, d3] => { results := [.lit (.bool false)], args := [d1, d2, d3] }
  | _ => none }
def PathSchedulesWrongFalsely : Prop := pathSchedulesRow.holds Tryz.pinned (OpenSpec.ofChange pathSchedulesWrong)

/-- 'bushellaw05.PathBottlenecks': WHATEVER THE INPUT: true; the input reads as it did. -/
def pathBottlenecksSpec : ChangeSpec := { name := "pathBottlenecks", fn := fun _ => fun
  | [d1, d2] => { results := [.lit (.bool true)], args := [d1, d2] }
  | _ => none }
def pathBottlenecksRow : OpenClaim := { program := "ytahpdkkpnkhnhaagreatdoor", sum := "2173589ce5802b7c0d751346f4ce4a8642c7300b3b6031140f9cf6e3dd4f8832", func := "bushel/bushellaw05.PathBottlenecks", spec := "pathBottlenecks", unfollowed := true, recurses := true, named := ["bushel/path.words"], apart := false, laid := [("bushel/path.words", laid_bushel_path_words)] }
def PathBottlenecksSaid : Prop := pathBottlenecksRow.holds Tryz.pinned (OpenSpec.ofChange pathBottlenecksSpec)

/-- ITS FALSE NEIGHBOUR: 'it returns false'. Refute it at one input. -/
def pathBottlenecksWrong : ChangeSpec := { name := "pathBottlenecks", fn := fun _ => fun
  | [d1, d2] => { results := [.lit (.bool false)], args := [d1, d2] }
  | _ => none }
def PathBottlenecksWrongFalsely : Prop := pathBottlenecksRow.holds Tryz.pinned (OpenSpec.ofChange pathBottlenecksWrong)

/-- 'bushellaw05.PathNeverMeets': WHATEVER THE INPUT: true; the input reads as it did. -/
def pathNeverMeetsSpec : ChangeSpec := { name := "pathNeverMeets", fn := fun _ => fun
  | [d1, d2] => { results := [.lit (.bool true)], args := [d1, d2] }
  | _ => none }
def pathNeverMeetsRow : OpenClaim := { program := "ytahpdkkpnkhnhaagreatdoor", sum := "2173589ce5802b7c0d751346f4ce4a8642c7300b3b6031140f9cf6e3dd4f8832", func := "bushel/bushellaw05.PathNeverMeets", spec := "pathNeverMeets", unfollowed := true, recurses := true, named := ["bushel/path.words"], apart := false, laid := [("bushel/path.words", laid_bushel_path_words)] }
def PathNeverMeetsSaid : Prop := pathNeverMeetsRow.holds Tryz.pinned (OpenSpec.ofChange pathNeverMeetsSpec)

/-- ITS FALSE NEIGHBOUR: 'it returns false'. Refute it at one input. -/
def pathNeverMeetsWrong : ChangeSpec := { name := "pathNeverMeets", fn := fun _ => fun
  | [d1, d2] => { results := [.lit (.bool false)], args := [d1, d2] }
  | _ => none }
def PathNeverMeetsWrongFalsely : Prop := pathNeverMeetsRow.holds Tryz.pinned (OpenSpec.ofChange pathNeverMeetsWrong)

/-- 'bushellaw05.PathCleans': WHATEVER THE INPUT: true; the input reads as it did. -/
def pathCleansSpec : ChangeSpec := { name := "pathCleans", fn := fun _ => fun
  | [d1, d2, d3] => { results := [.lit (.bool true)], args := [d1, d2, d3] }
  | _ => none }
def pathCleansRow : OpenClaim := { program := "ytahpdkkpnkhnhaagreatdoor", sum := "2173589ce5802b7c0d751346f4ce4a8642c7300b3b6031140f9cf6e3dd4f8832", func := "bushel/bushellaw05.PathCleans", spec := "pathCleans", unfollowed := true, recurses := true, named := ["bushel/path.words"], apart := false, laid := [("bushel/path.words", laid_bushel_path_words)] }
def PathCleansSaid : Prop := pathCleansRow.holds Tryz.pinned (OpenSpec.ofChange pathCleansSpec)

/-- ITS FALSE NEIGHBOUR: 'it returns false'. Refute it at one input. -/
def pathCleansWrong : ChangeSpec := { name := "pathCleans", fn := fun _ => fun
  | [d1, d2, d3] => { results := [.lit (.bool false)], args := [d1, d2, d3] }
  | _ => none }
def PathCleansWrongFalsely : Prop := pathCleansRow.holds Tryz.pinned (OpenSpec.ofChange pathCleansWrong)

/-- 'bushellaw05.PathBests': WHATEVER THE INPUT: true; the input reads as it did. -/
def pathBestsSpec : ChangeSpec := { name := "pathBests", fn := fun _ => fun
  | [d1, d2] => { results := [.lit (.bool true)], args := [d1, d2] }
  | _ => none }
def pathBestsRow : OpenClaim := { program := "ytahpdkkpnkhnhaagreatdoor", sum := "2173589ce5802b7c0d751346f4ce4a8642c7300b3b6031140f9cf6e3dd4f8832", func := "bushel/bushellaw05.PathBests", spec := "pathBests", unfollowed := true, recurses := true, named := ["bushel/path.words"], apart := false, laid := [("bushel/path.words", laid_bushel_path_words)] }
def PathBestsSaid : Prop := pathBestsRow.holds Tryz.pinned (OpenSpec.ofChange pathBestsSpec)

/-- ITS FALSE NEIGHBOUR: 'it returns false'. Refute it at one input. -/
def pathBestsWrong : ChangeSpec := { name := "pathBests", fn := fun _ => fun
  | [d1, d2] => { results := [.lit (.bool false)], args := [d1, d2] }
  | _ => none }
def PathBestsWrongFalsely : Prop := pathBestsRow.holds Tryz.pinned (OpenSpec.ofChange pathBestsWrong)

/-- 'bushellaw05.PathClaims': WHATEVER THE INPUT: true; the input reads as it did. -/
def pathClaimsSpec : ChangeSpec := { name := "pathClaims", fn := fun _ => fun
  | [d1, d2, d3] => { results := [.lit (.bool true)], args := [d1, d2, d3] }
  | _ => none }
def pathClaimsRow : OpenClaim := { program := "ytahpdkkpnkhnhaagreatdoor", sum := "2173589ce5802b7c0d751346f4ce4a8642c7300b3b6031140f9cf6e3dd4f8832", func := "bushel/bushellaw05.PathClaims", spec := "pathClaims", unfollowed := true, recurses := true, named := ["bushel/path.words"], apart := false, laid := [("bushel/path.words", laid_bushel_path_words)] }
def PathClaimsSaid : Prop := pathClaimsRow.holds Tryz.pinned (OpenSpec.ofChange pathClaimsSpec)

/-- ITS FALSE NEIGHBOUR: 'it returns false'. Refute it at one input. -/
def pathClaimsWrong : ChangeSpec := { name := "pathClaims", fn := fun _ => fun
  | [d1, d2, d3] => { results := [.lit (.bool false)], args := [d1, d2, d3] }
  | _ => none }
def PathClaimsWrongFalsely : Prop := pathClaimsRow.holds Tryz.pinned (OpenSpec.ofChange pathClaimsWrong)

/-- 'bushellaw05.PathEarliest': WHATEVER THE INPUT: true; the input reads as it did. -/
def pathEarliestSpec : ChangeSpec := { name := "pathEarliest", fn := fun _ => fun
  | [d1, d2] => { results := [.lit (.bool true)], args := [d1, d2] }
  | _ => none }
def pathEarliestRow : OpenClaim := { program := "ytahpdkkpnkhnhaagreatdoor", sum := "2173589ce5802b7c0d751346f4ce4a8642c7300b3b6031140f9cf6e3dd4f8832", func := "bushel/bushellaw05.PathEarliest", spec := "pathEarliest", unfollowed := true, recurses := true, named := ["bushel/path.words"], apart := false, laid := [("bushel/path.words", laid_bushel_path_words)] }
def PathEarliestSaid : Prop := pathEarliestRow.holds Tryz.pinned (OpenSpec.ofChange pathEarliestSpec)

/-- ITS FALSE NEIGHBOUR: 'it returns false'. Refute it at one input. -/
def pathEarliestWrong : ChangeSpec := { name := "pathEarliest", fn := fun _ => fun
  | [d1, d2] => { results := [.lit (.bool false)], args := [d1, d2] }
  | _ => none }
def PathEarliestWrongFalsely : Prop := pathEarliestRow.holds Tryz.pinned (OpenSpec.ofChange pathEarliestWrong)

/-- 'bushellaw05.PathMenger': WHATEVER THE INPUT: true; the input reads as it did. -/
def pathMengerSpec : ChangeSpec := { name := "pathMenger", fn := fun _ => fun
  | [d1, d2] => { results := [.lit (.bool true)], args := [d1, d2] }
  | _ => none }
def pathMengerRow : OpenClaim := { program := "ytahpdkkpnkhnhaagreatdoor", sum := "2173589ce5802b7c0d751346f4ce4a8642c7300b3b6031140f9cf6e3dd4f8832", func := "bushel/bushellaw05.PathMenger", spec := "pathMenger", unfollowed := true, recurses := true, named := ["bushel/path.words"], apart := false, laid := [("bushel/path.words", laid_bushel_path_words)] }
def PathMengerSaid : Prop := pathMengerRow.holds Tryz.pinned (OpenSpec.ofChange pathMengerSpec)

/-- ITS FALSE NEIGHBOUR: 'it returns false'. Refute it at one input. -/
def pathMengerWrong : ChangeSpec := { name := "pathMenger", fn := fun _ => fun
  | [d1, d2] => { results := [.lit (.bool false)], args := [d1, d2] }
  | _ => none }
def PathMengerWrongFalsely : Prop := pathMengerRow.holds Tryz.pinned (OpenSpec.ofChange pathMengerWrong)

/- THE SECOND FORM. 'bulk': how many values and letters a reading holds, each counted each time it is reached (what is shared counts as often as it is met; a slice's spare places count too). A statement '..UptoSaid' is the law's where the arguments, and the package variables that the reading takes, are together of bulk at most 1048576: NARROWER than '..Said'. Prove '..Said' where nothing that the law and all that it calls make is longer than what came in: it says more and counts as full. Else prove '..UptoSaid'. A law counts once. -/
mutual
def uptoBulk {H : Type} : DataW H → Nat
  | .lit (.string bytes) => bytes.length + 1
  | .lit _ => 1
  | .nil => 1
  | .ptr d => uptoBulk d + 1
  | .slice elems spare => uptoBulkAll elems + uptoBulkAll spare + 1
  | .agg parts => uptoBulkAll parts + 1
  | .iface _ d => uptoBulk d + 1
  | .map entries => uptoBulkEntries entries + 1
  | .held _ => 1
def uptoBulkAll {H : Type} : List (DataW H) → Nat
  | [] => 0
  | d :: r => uptoBulk d + uptoBulkAll r
def uptoBulkEntries {H : Type} : List (Lit × DataW H) → Nat
  | [] => 0
  | x :: r => uptoBulkEntry x + uptoBulkEntries r
def uptoBulkEntry {H : Type} : Lit × DataW H → Nat
  | (.string bytes, d) => bytes.length + uptoBulk d + 1
  | (_, d) => uptoBulk d + 1
 end
def uptoSmall : (H : Type) → List (DataW H) → Bool := fun _ ds => decide (uptoBulkAll ds ≤ 1048576)
def OpenSpec.upto (s : _root_.Go.ChangeSpec) : _root_.Go.OpenSpec := { _root_.Go.OpenSpec.ofChange s with cond := some uptoSmall }

/-- 'bushellaw05.PathRoutes', WHERE WHAT IT READS IS OF BULK AT MOST 1048576: true; the input reads as it did. -/
def pathRoutesUptoRow : OpenClaim := { program := "ytahpdkkpnkhnhaagreatdoor", sum := "2173589ce5802b7c0d751346f4ce4a8642c7300b3b6031140f9cf6e3dd4f8832", func := "bushel/bushellaw05.PathRoutes", spec := "pathRoutes", unfollowed := true, recurses := true, named := ["bushel/path.words"], apart := false, laid := [("bushel/path.words", laid_bushel_path_words)], narrowed := true }
def PathRoutesUptoSaid : Prop := pathRoutesUptoRow.holds Tryz.pinned (OpenSpec.upto pathRoutesSpec)

/-- 'bushellaw05.PathStarts', WHERE WHAT IT READS IS OF BULK AT MOST 1048576: true; the input reads as it did. -/
def pathStartsUptoRow : OpenClaim := { program := "ytahpdkkpnkhnhaagreatdoor", sum := "2173589ce5802b7c0d751346f4ce4a8642c7300b3b6031140f9cf6e3dd4f8832", func := "bushel/bushellaw05.PathStarts", spec := "pathStarts", unfollowed := true, recurses := true, named := ["bushel/path.words"], apart := false, laid := [("bushel/path.words", laid_bushel_path_words)], narrowed := true }
def PathStartsUptoSaid : Prop := pathStartsUptoRow.holds Tryz.pinned (OpenSpec.upto pathStartsSpec)

/-- 'bushellaw05.PathPlants', WHERE WHAT IT READS IS OF BULK AT MOST 1048576: true; the input reads as it did. -/
def pathPlantsUptoRow : OpenClaim := { program := "ytahpdkkpnkhnhaagreatdoor", sum := "2173589ce5802b7c0d751346f4ce4a8642c7300b3b6031140f9cf6e3dd4f8832", func := "bushel/bushellaw05.PathPlants", spec := "pathPlants", unfollowed := true, recurses := true, named := ["bushel/path.words"], apart := false, laid := [("bushel/path.words", laid_bushel_path_words)], narrowed := true }
def PathPlantsUptoSaid : Prop := pathPlantsUptoRow.holds Tryz.pinned (OpenSpec.upto pathPlantsSpec)

/-- 'bushellaw05.PathStates', WHERE WHAT IT READS IS OF BULK AT MOST 1048576: true; the input reads as it did. -/
def pathStatesUptoRow : OpenClaim := { program := "ytahpdkkpnkhnhaagreatdoor", sum := "2173589ce5802b7c0d751346f4ce4a8642c7300b3b6031140f9cf6e3dd4f8832", func := "bushel/bushellaw05.PathStates", spec := "pathStates", unfollowed := true, recurses := true, named := ["bushel/path.words"], apart := false, laid := [("bushel/path.words", laid_bushel_path_words)], narrowed := true }
def PathStatesUptoSaid : Prop := pathStatesUptoRow.holds Tryz.pinned (OpenSpec.upto pathStatesSpec)

/-- 'bushellaw05.PathStops', WHERE WHAT IT READS IS OF BULK AT MOST 1048576: true; the input reads as it did. -/
def pathStopsUptoRow : OpenClaim := { program := "ytahpdkkpnkhnhaagreatdoor", sum := "2173589ce5802b7c0d751346f4ce4a8642c7300b3b6031140f9cf6e3dd4f8832", func := "bushel/bushellaw05.PathStops", spec := "pathStops", unfollowed := true, recurses := true, named := ["bushel/path.words"], apart := false, laid := [("bushel/path.words", laid_bushel_path_words)], narrowed := true }
def PathStopsUptoSaid : Prop := pathStopsUptoRow.holds Tryz.pinned (OpenSpec.upto pathStopsSpec)

/-- 'bushellaw05.PathSchedules', WHERE WHAT IT READS IS OF BULK AT MOST 1048576: true; the input reads as it did. -/
def pathSchedulesUptoRow : OpenClaim := { program := "ytahpdkkpnkhnhaagreatdoor", sum := "2173589ce5802b7c0d751346f4ce4a8642c7300b3b6031140f9cf6e3dd4f8832", func := "bushel/bushellaw05.PathSchedules", spec := "pathSchedules", unfollowed := true, recurses := true, named := ["bushel/path.words"], apart := false, laid := [("bushel/path.words", laid_bushel_path_words)], narrowed := true }
def PathSchedulesUptoSaid : Prop := pathSchedulesUptoRow.holds Tryz.pinned (OpenSpec.upto pathSchedulesSpec)

/-- 'bushellaw05.PathBottlenecks', WHERE WHAT IT READS IS OF BULK AT MOST 1048576: true; the input reads as it did. -/
def pathBottlenecksUptoRow : OpenClaim := { program := "ytahpdkkpnkhnhaagreatdoor", sum := "2173589ce5802b7c0d751346f4ce4a8642c7300b3b6031140f9cf6e3dd4f8832", func := "bushel/bushellaw05.PathBottlenecks", spec := "pathBottlenecks", unfollowed := true, recurses := true, named := ["bushel/path.words"], apart := false, laid := [("bushel/path.words", laid_bushel_path_words)], narrowed := true }
def PathBottlenecksUptoSaid : Prop := pathBottlenecksUptoRow.holds Tryz.pinned (OpenSpec.upto pathBottlenecksSpec)

/-- 'bushellaw05.PathNeverMeets', WHERE WHAT IT READS IS OF BULK AT MOST 1048576: true; the input reads as it did. -/
def pathNeverMeetsUptoRow : OpenClaim := { program := "ytahpdkkpnkhnhaagreatdoor", sum := "2173589ce5802b7c0d751346f4ce4a8642c7300b3b6031140f9cf6e3dd4f8832", func := "bushel/bushellaw05.PathNeverMeets", spec := "pathNeverMeets", unfollowed := true, recurses := true, named := ["bushel/path.words"], apart := false, laid := [("bushel/path.words", laid_bushel_path_words)], narrowed := true }
def PathNeverMeetsUptoSaid : Prop := pathNeverMeetsUptoRow.holds Tryz.pinned (OpenSpec.upto pathNeverMeetsSpec)

/-- 'bushellaw05.PathCleans', WHERE WHAT IT READS IS OF BULK AT MOST 1048576: true; the input reads as it did. -/
def pathCleansUptoRow : OpenClaim := { program := "ytahpdkkpnkhnhaagreatdoor", sum := "2173589ce5802b7c0d751346f4ce4a8642c7300b3b6031140f9cf6e3dd4f8832", func := "bushel/bushellaw05.PathCleans", spec := "pathCleans", unfollowed := true, recurses := true, named := ["bushel/path.words"], apart := false, laid := [("bushel/path.words", laid_bushel_path_words)], narrowed := true }
def PathCleansUptoSaid : Prop := pathCleansUptoRow.holds Tryz.pinned (OpenSpec.upto pathCleansSpec)

/-- 'bushellaw05.PathBests', WHERE WHAT IT READS IS OF BULK AT MOST 1048576: true; the input reads as it did. -/
def pathBestsUptoRow : OpenClaim := { program := "ytahpdkkpnkhnhaagreatdoor", sum := "2173589ce5802b7c0d751346f4ce4a8642c7300b3b6031140f9cf6e3dd4f8832", func := "bushel/bushellaw05.PathBests", spec := "pathBests", unfollowed := true, recurses := true, named := ["bushel/path.words"], apart := false, laid := [("bushel/path.words", laid_bushel_path_words)], narrowed := true }
def PathBestsUptoSaid : Prop := pathBestsUptoRow.holds Tryz.pinned (OpenSpec.upto pathBestsSpec)

/-- 'bushellaw05.PathClaims', WHERE WHAT IT READS IS OF BULK AT MOST 1048576: true; the input reads as it did. -/
def pathClaimsUptoRow : OpenClaim := { program := "ytahpdkkpnkhnhaagreatdoor", sum := "2173589ce5802b7c0d751346f4ce4a8642c7300b3b6031140f9cf6e3dd4f8832", func := "bushel/bushellaw05.PathClaims", spec := "pathClaims", unfollowed := true, recurses := true, named := ["bushel/path.words"], apart := false, laid := [("bushel/path.words", laid_bushel_path_words)], narrowed := true }
def PathClaimsUptoSaid : Prop := pathClaimsUptoRow.holds Tryz.pinned (OpenSpec.upto pathClaimsSpec)

/-- 'bushellaw05.PathEarliest', WHERE WHAT IT READS IS OF BULK AT MOST 1048576: true; the input reads as it did. -/
def pathEarliestUptoRow : OpenClaim := { program := "ytahpdkkpnkhnhaagreatdoor", sum := "2173589ce5802b7c0d751346f4ce4a8642c7300b3b6031140f9cf6e3dd4f8832", func := "bushel/bushellaw05.PathEarliest", spec := "pathEarliest", unfollowed := true, recurses := true, named := ["bushel/path.words"], apart := false, laid := [("bushel/path.words", laid_bushel_path_words)], narrowed := true }
def PathEarliestUptoSaid : Prop := pathEarliestUptoRow.holds Tryz.pinned (OpenSpec.upto pathEarliestSpec)

/-- 'bushellaw05.PathMenger', WHERE WHAT IT READS IS OF BULK AT MOST 1048576: true; the input reads as it did. -/
def pathMengerUptoRow : OpenClaim := { program := "ytahpdkkpnkhnhaagreatdoor", sum := "2173589ce5802b7c0d751346f4ce4a8642c7300b3b6031140f9cf6e3dd4f8832", func := "bushel/bushellaw05.PathMenger", spec := "pathMenger", unfollowed := true, recurses := true, named := ["bushel/path.words"], apart := false, laid := [("bushel/path.words", laid_bushel_path_words)], narrowed := true }
def PathMengerUptoSaid : Prop := pathMengerUptoRow.holds Tryz.pinned (OpenSpec.upto pathMengerSpec)

end Rows
end Go.Proofs.YtahpdkkpnkhnhaaGreatDoor
