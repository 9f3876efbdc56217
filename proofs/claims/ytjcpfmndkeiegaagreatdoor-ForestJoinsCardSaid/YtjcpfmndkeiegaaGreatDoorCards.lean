/-
  DERIVED. GIVEN WITH THE SEED: THE CARDS: each row of YtjcpfmndkeiegaaGreatDoorRows.lean that lists a variable, with what it lists TIED to the program's text (the seventh form; the later family's looks); each row that meets fmt, with fmt's text TOLD by the authors' own Lean function (tested against real Go, not proved from fmt's source: count such statements apart). THE CARD IS WHAT COUNTS. Prove the row's statement (the work); the ties are given (YtjcpfmndkeiegaaGreatDoorTie.lean); close each card by the builder's one call (the guide's Derived/Test/ToyasCard.lean, 'card_holds'). Laid BY PROGRAM, IN A SANDBOX (cutbox-door.mjs). By AI agents, Wed Nov 11 2026. No macro, syntax, notation, axiom, sorry.
-/
import Derived.Test.YtjcpfmndkeiegaaGreatDoorRows
import GoSem.ClaimSeven
namespace Go.Proofs.YtjcpfmndkeiegaaGreatDoor
namespace Rows

/-- THE TIED CARD OF 'hornbeamlaw16.ForestOrder'. -/
def forestOrderCard : Claim7 := { stood := { row := forestOrderRow, standIns := [], harness := (true, "fa3b548408266e1ac395fd3e1740c3d752b3496816eea9b035d1ba5baaa68faf"), looks := false }, kinds := [], alts := [], laidByText := true, laidKinds := [.data, .pinned], laidTests := true, laidLooks := .later }
def ForestOrderCardSaid : Prop := Claim7.holds Tryz.pinned (.plain (OpenSpec.ofChange forestOrderSpec)) forestOrderCard

/-- THE TIED CARD OF 'hornbeamlaw16.ForestWeights'. -/
def forestWeightsCard : Claim7 := { stood := { row := forestWeightsRow, standIns := [], harness := (true, "fa3b548408266e1ac395fd3e1740c3d752b3496816eea9b035d1ba5baaa68faf"), looks := false }, kinds := [], alts := [], laidByText := true, laidKinds := [.data, .pinned], laidTests := true, laidLooks := .later }
def ForestWeightsCardSaid : Prop := Claim7.holds Tryz.pinned (.plain (OpenSpec.ofChange forestWeightsSpec)) forestWeightsCard

/-- THE TIED CARD OF 'hornbeamlaw16.ForestJoins'. -/
def forestJoinsCard : Claim7 := { stood := { row := forestJoinsRow, standIns := [], harness := (true, "fa3b548408266e1ac395fd3e1740c3d752b3496816eea9b035d1ba5baaa68faf"), looks := false }, kinds := [], alts := [], laidByText := true, laidKinds := [.data, .pinned], laidTests := true, laidLooks := .later }
def ForestJoinsCardSaid : Prop := Claim7.holds Tryz.pinned (.plain (OpenSpec.ofChange forestJoinsSpec)) forestJoinsCard

/-- THE SECOND FORM's CARD OF 'hornbeamlaw16.ForestOrder'. -/
def forestOrderUptoCard : Claim7 := { stood := { row := forestOrderUptoRow, standIns := [], harness := (true, "fa3b548408266e1ac395fd3e1740c3d752b3496816eea9b035d1ba5baaa68faf"), looks := false }, kinds := [], alts := [], laidByText := true, laidKinds := [.data, .pinned], laidTests := true, laidLooks := .later }
def ForestOrderUptoCardSaid : Prop := Claim7.holds Tryz.pinned (.plain (OpenSpec.upto forestOrderSpec)) forestOrderUptoCard

/-- THE SECOND FORM's CARD OF 'hornbeamlaw16.ForestWeights'. -/
def forestWeightsUptoCard : Claim7 := { stood := { row := forestWeightsUptoRow, standIns := [], harness := (true, "fa3b548408266e1ac395fd3e1740c3d752b3496816eea9b035d1ba5baaa68faf"), looks := false }, kinds := [], alts := [], laidByText := true, laidKinds := [.data, .pinned], laidTests := true, laidLooks := .later }
def ForestWeightsUptoCardSaid : Prop := Claim7.holds Tryz.pinned (.plain (OpenSpec.upto forestWeightsSpec)) forestWeightsUptoCard

/-- THE SECOND FORM's CARD OF 'hornbeamlaw16.ForestJoins'. -/
def forestJoinsUptoCard : Claim7 := { stood := { row := forestJoinsUptoRow, standIns := [], harness := (true, "fa3b548408266e1ac395fd3e1740c3d752b3496816eea9b035d1ba5baaa68faf"), looks := false }, kinds := [], alts := [], laidByText := true, laidKinds := [.data, .pinned], laidTests := true, laidLooks := .later }
def ForestJoinsUptoCardSaid : Prop := Claim7.holds Tryz.pinned (.plain (OpenSpec.upto forestJoinsSpec)) forestJoinsUptoCard
end Rows
end Go.Proofs.YtjcpfmndkeiegaaGreatDoor
