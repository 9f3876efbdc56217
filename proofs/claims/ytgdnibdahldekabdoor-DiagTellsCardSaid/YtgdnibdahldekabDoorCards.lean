/-
  DERIVED. GIVEN WITH THE SEED: THE CARDS: each row of YtgdnibdahldekabDoorRows.lean that lists a variable, with what it lists TIED to the program's text (the seventh form; the later family's looks); each row that meets fmt, with fmt's text TOLD by the authors' own Lean function (tested against real Go, not proved from fmt's source: count such statements apart). THE CARD IS WHAT COUNTS. Prove the row's statement (the work); the ties are given (YtgdnibdahldekabDoorTie.lean); close each card by the builder's one call (the guide's Derived/Test/ToyasCard.lean, 'card_holds'). Laid BY PROGRAM, IN A SANDBOX (cutbox-door.mjs). By AI agents, Wed Nov 11 2026. No macro, syntax, notation, axiom, sorry.
-/
import Derived.Test.YtgdnibdahldekabDoorRows
import GoSem.ClaimSeven
namespace Go.Proofs.YtgdnibdahldekabDoor
namespace Rows

/-- THE TIED CARD OF 'hornbeamlaw5.DiagEach'. -/
def diagEachCard : Claim7 := { stood := { row := diagEachRow, standIns := [], harness := (true, "ae6d8c85ceb59f0dfe093047cd0bd5430c4275df81c4bfbdd6c66d189b2d5255"), looks := false }, kinds := [], alts := [], laidByText := true, laidKinds := [.data, .data, .data], laidTests := true, laidLooks := .later }
def DiagEachCardSaid : Prop := Claim7.holds Tryd.pinned (.plain (OpenSpec.ofChange diagEachSpec)) diagEachCard

/-- THE TIED CARD OF 'hornbeamlaw5.DiagTells'. -/
def diagTellsCard : Claim7 := { stood := { row := diagTellsRow, standIns := [], harness := (true, "ae6d8c85ceb59f0dfe093047cd0bd5430c4275df81c4bfbdd6c66d189b2d5255"), looks := false }, kinds := [], alts := [], laidByText := true, laidKinds := [.data, .data, .data], laidTests := true, laidLooks := .later }
def DiagTellsCardSaid : Prop := Claim7.holds Tryd.pinned (.plain (OpenSpec.ofChange diagTellsSpec)) diagTellsCard

/-- THE SECOND FORM's CARD OF 'hornbeamlaw5.DiagEach'. -/
def diagEachUptoCard : Claim7 := { stood := { row := diagEachUptoRow, standIns := [], harness := (true, "ae6d8c85ceb59f0dfe093047cd0bd5430c4275df81c4bfbdd6c66d189b2d5255"), looks := false }, kinds := [], alts := [], laidByText := true, laidKinds := [.data, .data, .data], laidTests := true, laidLooks := .later }
def DiagEachUptoCardSaid : Prop := Claim7.holds Tryd.pinned (.plain (OpenSpec.upto diagEachSpec)) diagEachUptoCard

/-- THE SECOND FORM's CARD OF 'hornbeamlaw5.DiagTells'. -/
def diagTellsUptoCard : Claim7 := { stood := { row := diagTellsUptoRow, standIns := [], harness := (true, "ae6d8c85ceb59f0dfe093047cd0bd5430c4275df81c4bfbdd6c66d189b2d5255"), looks := false }, kinds := [], alts := [], laidByText := true, laidKinds := [.data, .data, .data], laidTests := true, laidLooks := .later }
def DiagTellsUptoCardSaid : Prop := Claim7.holds Tryd.pinned (.plain (OpenSpec.upto diagTellsSpec)) diagTellsUptoCard
end Rows
end Go.Proofs.YtgdnibdahldekabDoor
