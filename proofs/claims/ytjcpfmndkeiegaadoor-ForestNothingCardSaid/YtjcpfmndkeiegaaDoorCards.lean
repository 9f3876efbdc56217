/-
  DERIVED. GIVEN WITH THE SEED: THE CARDS: each row of YtjcpfmndkeiegaaDoorRows.lean that lists a variable, with what it lists TIED to the program's text (the seventh form; the later family's looks); each row that meets fmt, with fmt's text TOLD by the authors' own Lean function (tested against real Go, not proved from fmt's source: count such statements apart). THE CARD IS WHAT COUNTS. Prove the row's statement (the work); the ties are given (YtjcpfmndkeiegaaDoorTie.lean); close each card by the builder's one call (the guide's Derived/Test/ToyasCard.lean, 'card_holds'). Laid BY PROGRAM, IN A SANDBOX (cutbox-door.mjs). By AI agents, Wed Nov 11 2026. No macro, syntax, notation, axiom, sorry.
-/
import Derived.Test.YtjcpfmndkeiegaaDoorRows
import GoSem.ClaimSeven
namespace Go.Proofs.YtjcpfmndkeiegaaDoor
namespace Rows

/-- THE TIED CARD OF 'hornbeamlaw16.ForestNothing'. -/
def forestNothingCard : Claim7 := { stood := { row := forestNothingRow, standIns := [], harness := (true, "18679b5afb9c0dc9f3712b3ad1fe8d54cca47e74dc474d5e38b2e4c8298f17f2"), looks := false }, kinds := [], alts := [], laidByText := true, laidKinds := [.data, .pinned], laidTests := true, laidLooks := .later }
def ForestNothingCardSaid : Prop := Claim7.holds Tryd.pinned (.plain (OpenSpec.ofChange forestNothingSpec)) forestNothingCard

/-- THE SECOND FORM's CARD OF 'hornbeamlaw16.ForestNothing'. -/
def forestNothingUptoCard : Claim7 := { stood := { row := forestNothingUptoRow, standIns := [], harness := (true, "18679b5afb9c0dc9f3712b3ad1fe8d54cca47e74dc474d5e38b2e4c8298f17f2"), looks := false }, kinds := [], alts := [], laidByText := true, laidKinds := [.data, .pinned], laidTests := true, laidLooks := .later }
def ForestNothingUptoCardSaid : Prop := Claim7.holds Tryd.pinned (.plain (OpenSpec.upto forestNothingSpec)) forestNothingUptoCard
end Rows
end Go.Proofs.YtjcpfmndkeiegaaDoor
