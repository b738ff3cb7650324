/-
  DERIVED. GIVEN WITH THE SEED: THE CARDS: each row of YtaklmocjaokkpaaGreatDoorRows.lean that lists a variable, with what it lists TIED to the program's text (the seventh form; the later family's looks); each row that meets fmt, with fmt's text TOLD by the authors' own Lean function (tested against real Go, not proved from fmt's source: count such statements apart). THE CARD IS WHAT COUNTS. Prove the row's statement (the work); the ties are given (YtaklmocjaokkpaaGreatDoorTie.lean); close each card by the builder's one call (the guide's Derived/Test/ToyasCard.lean, 'card_holds'). Laid BY PROGRAM, IN A SANDBOX (cutbox-door.mjs). By AI agents, Wed Nov 11 2026. No macro, syntax, notation, axiom, sorry.
-/
import Derived.Test.YtaklmocjaokkpaaGreatDoorRows
import GoSem.ClaimSeven
namespace Go.Proofs.YtaklmocjaokkpaaGreatDoor
namespace Rows

/-- THE TIED CARD OF 'sacristanlaw07.ScopeBinds'. -/
def scopeBindsCard : Claim7 := { stood := { row := scopeBindsRow, standIns := [], harness := (true, "e0e398d62ebe9b199142aea14de1f52fee95703c15cd418db329556e6302867d"), looks := true }, kinds := [], alts := [], laidByText := true, laidKinds := [.data, .data, .data, .data, .sentinel, .sentinel, .pinned], laidTests := true, laidLooks := .later }
def ScopeBindsCardSaid : Prop := Claim7.holds Tryz.pinned (.plain (OpenSpec.ofChange scopeBindsSpec)) scopeBindsCard

/-- THE TIED CARD OF 'sacristanlaw07.ScopeParts'. -/
def scopePartsCard : Claim7 := { stood := { row := scopePartsRow, standIns := [], harness := (true, "e0e398d62ebe9b199142aea14de1f52fee95703c15cd418db329556e6302867d"), looks := true }, kinds := [], alts := [], laidByText := true, laidKinds := [.data, .data, .data, .data, .sentinel, .sentinel, .pinned], laidTests := true, laidLooks := .later }
def ScopePartsCardSaid : Prop := Claim7.holds Tryz.pinned (.plain (OpenSpec.ofChange scopePartsSpec)) scopePartsCard

/-- THE TIED CARD OF 'sacristanlaw07.ScopeLets'. -/
def scopeLetsCard : Claim7 := { stood := { row := scopeLetsRow, standIns := [], harness := (true, "e0e398d62ebe9b199142aea14de1f52fee95703c15cd418db329556e6302867d"), looks := true }, kinds := [], alts := [], laidByText := true, laidKinds := [.data, .data, .data, .data, .sentinel, .sentinel, .pinned], laidTests := true, laidLooks := .later }
def ScopeLetsCardSaid : Prop := Claim7.holds Tryz.pinned (.plain (OpenSpec.ofChange scopeLetsSpec)) scopeLetsCard

/-- THE TIED CARD OF 'sacristanlaw05.TreePrints'. -/
def treePrintsCard : Claim7 := { stood := { row := treePrintsRow, standIns := [], harness := (true, "e0e398d62ebe9b199142aea14de1f52fee95703c15cd418db329556e6302867d"), looks := true }, kinds := [], alts := [], laidByText := true, laidKinds := [.data, .data, .data, .data, .sentinel, .sentinel, .pinned], laidTests := true, laidLooks := .later }
def TreePrintsCardSaid : Prop := Claim7.holds Tryz.pinned (.plain (OpenSpec.ofChange treePrintsSpec)) treePrintsCard

/-- THE TIED CARD OF 'sacristanlaw05.TreeWords'. -/
def treeWordsCard : Claim7 := { stood := { row := treeWordsRow, standIns := [], harness := (true, "e0e398d62ebe9b199142aea14de1f52fee95703c15cd418db329556e6302867d"), looks := true }, kinds := [], alts := [], laidByText := true, laidKinds := [.data, .data, .data, .data, .sentinel, .sentinel, .pinned], laidTests := true, laidLooks := .later }
def TreeWordsCardSaid : Prop := Claim7.holds Tryz.pinned (.plain (OpenSpec.ofChange treeWordsSpec)) treeWordsCard

/-- THE TIED CARD OF 'sacristanlaw05.TreeKids'. -/
def treeKidsCard : Claim7 := { stood := { row := treeKidsRow, standIns := [], harness := (true, "e0e398d62ebe9b199142aea14de1f52fee95703c15cd418db329556e6302867d"), looks := true }, kinds := [], alts := [], laidByText := true, laidKinds := [.data, .data, .data, .data, .sentinel, .sentinel, .pinned], laidTests := true, laidLooks := .later }
def TreeKidsCardSaid : Prop := Claim7.holds Tryz.pinned (.plain (OpenSpec.ofChange treeKidsSpec)) treeKidsCard

/-- THE TIED CARD OF 'sacristanlaw05.TreeDeep'. -/
def treeDeepCard : Claim7 := { stood := { row := treeDeepRow, standIns := [], harness := (true, "e0e398d62ebe9b199142aea14de1f52fee95703c15cd418db329556e6302867d"), looks := true }, kinds := [], alts := [], laidByText := true, laidKinds := [.data, .data, .data, .data, .sentinel, .sentinel, .pinned], laidTests := true, laidLooks := .later }
def TreeDeepCardSaid : Prop := Claim7.holds Tryz.pinned (.plain (OpenSpec.ofChange treeDeepSpec)) treeDeepCard

/-- THE TIED CARD OF 'sacristanlaw05.TreeOne'. -/
def treeOneCard : Claim7 := { stood := { row := treeOneRow, standIns := [], harness := (true, "e0e398d62ebe9b199142aea14de1f52fee95703c15cd418db329556e6302867d"), looks := true }, kinds := [], alts := [], laidByText := true, laidKinds := [.data, .data, .data, .data, .sentinel, .sentinel, .pinned], laidTests := true, laidLooks := .later }
def TreeOneCardSaid : Prop := Claim7.holds Tryz.pinned (.plain (OpenSpec.ofChange treeOneSpec)) treeOneCard

/-- THE TIED CARD OF 'sacristanlaw06.ParseBack'. -/
def parseBackCard : Claim7 := { stood := { row := parseBackRow, standIns := [], harness := (true, "e0e398d62ebe9b199142aea14de1f52fee95703c15cd418db329556e6302867d"), looks := true }, kinds := [], alts := [], laidByText := true, laidKinds := [.data, .data, .data, .data, .sentinel, .sentinel, .pinned], laidTests := true, laidLooks := .later }
def ParseBackCardSaid : Prop := Claim7.holds Tryz.pinned (.plain (OpenSpec.ofChange parseBackSpec)) parseBackCard

/-- THE TIED CARD OF 'sacristanlaw06.ParseCuts'. -/
def parseCutsCard : Claim7 := { stood := { row := parseCutsRow, standIns := [], harness := (true, "e0e398d62ebe9b199142aea14de1f52fee95703c15cd418db329556e6302867d"), looks := true }, kinds := [], alts := [], laidByText := true, laidKinds := [.data, .data, .data, .data, .sentinel, .sentinel, .pinned], laidTests := true, laidLooks := .later }
def ParseCutsCardSaid : Prop := Claim7.holds Tryz.pinned (.plain (OpenSpec.ofChange parseCutsSpec)) parseCutsCard

/-- THE TIED CARD OF 'sacristanlaw06.ParseOne'. -/
def parseOneCard : Claim7 := { stood := { row := parseOneRow, standIns := [], harness := (true, "e0e398d62ebe9b199142aea14de1f52fee95703c15cd418db329556e6302867d"), looks := true }, kinds := [], alts := [], laidByText := true, laidKinds := [.data, .data, .data, .data, .sentinel, .sentinel, .pinned], laidTests := true, laidLooks := .later }
def ParseOneCardSaid : Prop := Claim7.holds Tryz.pinned (.plain (OpenSpec.ofChange parseOneSpec)) parseOneCard

/-- THE SECOND FORM's CARD OF 'sacristanlaw07.ScopeBinds'. -/
def scopeBindsUptoCard : Claim7 := { stood := { row := scopeBindsUptoRow, standIns := [], harness := (true, "e0e398d62ebe9b199142aea14de1f52fee95703c15cd418db329556e6302867d"), looks := true }, kinds := [], alts := [], laidByText := true, laidKinds := [.data, .data, .data, .data, .sentinel, .sentinel, .pinned], laidTests := true, laidLooks := .later }
def ScopeBindsUptoCardSaid : Prop := Claim7.holds Tryz.pinned (.plain (OpenSpec.upto scopeBindsSpec)) scopeBindsUptoCard

/-- THE SECOND FORM's CARD OF 'sacristanlaw07.ScopeParts'. -/
def scopePartsUptoCard : Claim7 := { stood := { row := scopePartsUptoRow, standIns := [], harness := (true, "e0e398d62ebe9b199142aea14de1f52fee95703c15cd418db329556e6302867d"), looks := true }, kinds := [], alts := [], laidByText := true, laidKinds := [.data, .data, .data, .data, .sentinel, .sentinel, .pinned], laidTests := true, laidLooks := .later }
def ScopePartsUptoCardSaid : Prop := Claim7.holds Tryz.pinned (.plain (OpenSpec.upto scopePartsSpec)) scopePartsUptoCard

/-- THE SECOND FORM's CARD OF 'sacristanlaw07.ScopeLets'. -/
def scopeLetsUptoCard : Claim7 := { stood := { row := scopeLetsUptoRow, standIns := [], harness := (true, "e0e398d62ebe9b199142aea14de1f52fee95703c15cd418db329556e6302867d"), looks := true }, kinds := [], alts := [], laidByText := true, laidKinds := [.data, .data, .data, .data, .sentinel, .sentinel, .pinned], laidTests := true, laidLooks := .later }
def ScopeLetsUptoCardSaid : Prop := Claim7.holds Tryz.pinned (.plain (OpenSpec.upto scopeLetsSpec)) scopeLetsUptoCard

/-- THE SECOND FORM's CARD OF 'sacristanlaw05.TreePrints'. -/
def treePrintsUptoCard : Claim7 := { stood := { row := treePrintsUptoRow, standIns := [], harness := (true, "e0e398d62ebe9b199142aea14de1f52fee95703c15cd418db329556e6302867d"), looks := true }, kinds := [], alts := [], laidByText := true, laidKinds := [.data, .data, .data, .data, .sentinel, .sentinel, .pinned], laidTests := true, laidLooks := .later }
def TreePrintsUptoCardSaid : Prop := Claim7.holds Tryz.pinned (.plain (OpenSpec.upto treePrintsSpec)) treePrintsUptoCard

/-- THE SECOND FORM's CARD OF 'sacristanlaw05.TreeWords'. -/
def treeWordsUptoCard : Claim7 := { stood := { row := treeWordsUptoRow, standIns := [], harness := (true, "e0e398d62ebe9b199142aea14de1f52fee95703c15cd418db329556e6302867d"), looks := true }, kinds := [], alts := [], laidByText := true, laidKinds := [.data, .data, .data, .data, .sentinel, .sentinel, .pinned], laidTests := true, laidLooks := .later }
def TreeWordsUptoCardSaid : Prop := Claim7.holds Tryz.pinned (.plain (OpenSpec.upto treeWordsSpec)) treeWordsUptoCard

/-- THE SECOND FORM's CARD OF 'sacristanlaw05.TreeKids'. -/
def treeKidsUptoCard : Claim7 := { stood := { row := treeKidsUptoRow, standIns := [], harness := (true, "e0e398d62ebe9b199142aea14de1f52fee95703c15cd418db329556e6302867d"), looks := true }, kinds := [], alts := [], laidByText := true, laidKinds := [.data, .data, .data, .data, .sentinel, .sentinel, .pinned], laidTests := true, laidLooks := .later }
def TreeKidsUptoCardSaid : Prop := Claim7.holds Tryz.pinned (.plain (OpenSpec.upto treeKidsSpec)) treeKidsUptoCard

/-- THE SECOND FORM's CARD OF 'sacristanlaw05.TreeDeep'. -/
def treeDeepUptoCard : Claim7 := { stood := { row := treeDeepUptoRow, standIns := [], harness := (true, "e0e398d62ebe9b199142aea14de1f52fee95703c15cd418db329556e6302867d"), looks := true }, kinds := [], alts := [], laidByText := true, laidKinds := [.data, .data, .data, .data, .sentinel, .sentinel, .pinned], laidTests := true, laidLooks := .later }
def TreeDeepUptoCardSaid : Prop := Claim7.holds Tryz.pinned (.plain (OpenSpec.upto treeDeepSpec)) treeDeepUptoCard

/-- THE SECOND FORM's CARD OF 'sacristanlaw05.TreeOne'. -/
def treeOneUptoCard : Claim7 := { stood := { row := treeOneUptoRow, standIns := [], harness := (true, "e0e398d62ebe9b199142aea14de1f52fee95703c15cd418db329556e6302867d"), looks := true }, kinds := [], alts := [], laidByText := true, laidKinds := [.data, .data, .data, .data, .sentinel, .sentinel, .pinned], laidTests := true, laidLooks := .later }
def TreeOneUptoCardSaid : Prop := Claim7.holds Tryz.pinned (.plain (OpenSpec.upto treeOneSpec)) treeOneUptoCard

/-- THE SECOND FORM's CARD OF 'sacristanlaw06.ParseBack'. -/
def parseBackUptoCard : Claim7 := { stood := { row := parseBackUptoRow, standIns := [], harness := (true, "e0e398d62ebe9b199142aea14de1f52fee95703c15cd418db329556e6302867d"), looks := true }, kinds := [], alts := [], laidByText := true, laidKinds := [.data, .data, .data, .data, .sentinel, .sentinel, .pinned], laidTests := true, laidLooks := .later }
def ParseBackUptoCardSaid : Prop := Claim7.holds Tryz.pinned (.plain (OpenSpec.upto parseBackSpec)) parseBackUptoCard

/-- THE SECOND FORM's CARD OF 'sacristanlaw06.ParseCuts'. -/
def parseCutsUptoCard : Claim7 := { stood := { row := parseCutsUptoRow, standIns := [], harness := (true, "e0e398d62ebe9b199142aea14de1f52fee95703c15cd418db329556e6302867d"), looks := true }, kinds := [], alts := [], laidByText := true, laidKinds := [.data, .data, .data, .data, .sentinel, .sentinel, .pinned], laidTests := true, laidLooks := .later }
def ParseCutsUptoCardSaid : Prop := Claim7.holds Tryz.pinned (.plain (OpenSpec.upto parseCutsSpec)) parseCutsUptoCard

/-- THE SECOND FORM's CARD OF 'sacristanlaw06.ParseOne'. -/
def parseOneUptoCard : Claim7 := { stood := { row := parseOneUptoRow, standIns := [], harness := (true, "e0e398d62ebe9b199142aea14de1f52fee95703c15cd418db329556e6302867d"), looks := true }, kinds := [], alts := [], laidByText := true, laidKinds := [.data, .data, .data, .data, .sentinel, .sentinel, .pinned], laidTests := true, laidLooks := .later }
def ParseOneUptoCardSaid : Prop := Claim7.holds Tryz.pinned (.plain (OpenSpec.upto parseOneSpec)) parseOneUptoCard
end Rows
end Go.Proofs.YtaklmocjaokkpaaGreatDoor
