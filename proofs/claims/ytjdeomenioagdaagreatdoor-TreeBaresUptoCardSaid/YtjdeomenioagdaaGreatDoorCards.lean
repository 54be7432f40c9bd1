/-
  DERIVED. GIVEN WITH THE SEED: THE CARDS: each row of YtjdeomenioagdaaGreatDoorRows.lean that lists a variable, with what it lists TIED to the program's text (the seventh form; the later family's looks); each row that meets fmt, with fmt's text TOLD by the authors' own Lean function (tested against real Go, not proved from fmt's source: count such statements apart). THE CARD IS WHAT COUNTS. Prove the row's statement (the work); the ties are given (YtjdeomenioagdaaGreatDoorTie.lean); close each card by the builder's one call (the guide's Derived/Test/ToyasCard.lean, 'card_holds'). Laid BY PROGRAM, IN A SANDBOX (cutbox-door.mjs). By AI agents, Wed Nov 11 2026. No macro, syntax, notation, axiom, sorry.
-/
import Derived.Test.YtjdeomenioagdaaGreatDoorRows
import GoSem.ClaimSeven
namespace Go.Proofs.YtjdeomenioagdaaGreatDoor
namespace Rows

/-- THE TIED CARD OF 'drowselaw05.TreeRights'. -/
def treeRightsCard : Claim7 := { stood := { row := treeRightsRow, standIns := [], harness := (true, "8cd756ace8b4aa2ab59d89f88e81d37d006a8cfe0377d43a84ac30fc00afc831"), looks := false }, kinds := [], alts := [], laidByText := true, laidKinds := [.data, .data, .data, .data, .pinned], laidTests := true, laidLooks := .later }
def TreeRightsCardSaid : Prop := Claim7.holds Tryz.pinned (.plain (OpenSpec.ofChange treeRightsSpec)) treeRightsCard

/-- THE TIED CARD OF 'drowselaw05.TreeParts'. -/
def treePartsCard : Claim7 := { stood := { row := treePartsRow, standIns := [], harness := (true, "8cd756ace8b4aa2ab59d89f88e81d37d006a8cfe0377d43a84ac30fc00afc831"), looks := false }, kinds := [], alts := [], laidByText := true, laidKinds := [.data, .data, .data, .data, .pinned], laidTests := true, laidLooks := .later }
def TreePartsCardSaid : Prop := Claim7.holds Tryz.pinned (.plain (OpenSpec.ofChange treePartsSpec)) treePartsCard

/-- THE TIED CARD OF 'drowselaw05.TreeSames'. -/
def treeSamesCard : Claim7 := { stood := { row := treeSamesRow, standIns := [], harness := (true, "8cd756ace8b4aa2ab59d89f88e81d37d006a8cfe0377d43a84ac30fc00afc831"), looks := false }, kinds := [], alts := [], laidByText := true, laidKinds := [.data, .data, .data, .data, .pinned], laidTests := true, laidLooks := .later }
def TreeSamesCardSaid : Prop := Claim7.holds Tryz.pinned (.plain (OpenSpec.ofChange treeSamesSpec)) treeSamesCard

/-- THE TIED CARD OF 'drowselaw05.TreeBares'. -/
def treeBaresCard : Claim7 := { stood := { row := treeBaresRow, standIns := [], harness := (true, "8cd756ace8b4aa2ab59d89f88e81d37d006a8cfe0377d43a84ac30fc00afc831"), looks := false }, kinds := [], alts := [], laidByText := true, laidKinds := [.data, .data, .data, .data, .pinned], laidTests := true, laidLooks := .later }
def TreeBaresCardSaid : Prop := Claim7.holds Tryz.pinned (.plain (OpenSpec.ofChange treeBaresSpec)) treeBaresCard

/-- THE SECOND FORM's CARD OF 'drowselaw05.TreeRights'. -/
def treeRightsUptoCard : Claim7 := { stood := { row := treeRightsUptoRow, standIns := [], harness := (true, "8cd756ace8b4aa2ab59d89f88e81d37d006a8cfe0377d43a84ac30fc00afc831"), looks := false }, kinds := [], alts := [], laidByText := true, laidKinds := [.data, .data, .data, .data, .pinned], laidTests := true, laidLooks := .later }
def TreeRightsUptoCardSaid : Prop := Claim7.holds Tryz.pinned (.plain (OpenSpec.upto treeRightsSpec)) treeRightsUptoCard

/-- THE SECOND FORM's CARD OF 'drowselaw05.TreeParts'. -/
def treePartsUptoCard : Claim7 := { stood := { row := treePartsUptoRow, standIns := [], harness := (true, "8cd756ace8b4aa2ab59d89f88e81d37d006a8cfe0377d43a84ac30fc00afc831"), looks := false }, kinds := [], alts := [], laidByText := true, laidKinds := [.data, .data, .data, .data, .pinned], laidTests := true, laidLooks := .later }
def TreePartsUptoCardSaid : Prop := Claim7.holds Tryz.pinned (.plain (OpenSpec.upto treePartsSpec)) treePartsUptoCard

/-- THE SECOND FORM's CARD OF 'drowselaw05.TreeSames'. -/
def treeSamesUptoCard : Claim7 := { stood := { row := treeSamesUptoRow, standIns := [], harness := (true, "8cd756ace8b4aa2ab59d89f88e81d37d006a8cfe0377d43a84ac30fc00afc831"), looks := false }, kinds := [], alts := [], laidByText := true, laidKinds := [.data, .data, .data, .data, .pinned], laidTests := true, laidLooks := .later }
def TreeSamesUptoCardSaid : Prop := Claim7.holds Tryz.pinned (.plain (OpenSpec.upto treeSamesSpec)) treeSamesUptoCard

/-- THE SECOND FORM's CARD OF 'drowselaw05.TreeBares'. -/
def treeBaresUptoCard : Claim7 := { stood := { row := treeBaresUptoRow, standIns := [], harness := (true, "8cd756ace8b4aa2ab59d89f88e81d37d006a8cfe0377d43a84ac30fc00afc831"), looks := false }, kinds := [], alts := [], laidByText := true, laidKinds := [.data, .data, .data, .data, .pinned], laidTests := true, laidLooks := .later }
def TreeBaresUptoCardSaid : Prop := Claim7.holds Tryz.pinned (.plain (OpenSpec.upto treeBaresSpec)) treeBaresUptoCard
end Rows
end Go.Proofs.YtjdeomenioagdaaGreatDoor
