/-
  DERIVED. GIVEN WITH THE SEED: THE CARDS: each row of YtmhhkekokfpppaaDoorRows.lean that lists a variable, with what it lists TIED to the program's text (the seventh form; the later family's looks); each row that meets fmt, with fmt's text TOLD by the authors' own Lean function (tested against real Go, not proved from fmt's source: count such statements apart). THE CARD IS WHAT COUNTS. Prove the row's statement (the work); the ties are given (YtmhhkekokfpppaaDoorTie.lean); close each card by the builder's one call (the guide's Derived/Test/ToyasCard.lean, 'card_holds'). Laid BY PROGRAM, IN A SANDBOX (cutbox-door.mjs). By AI agents, Wed Nov 11 2026. No macro, syntax, notation, axiom, sorry.
-/
import Derived.Test.YtmhhkekokfpppaaDoorRows
import GoSem.ClaimSeven
namespace Go.Proofs.YtmhhkekokfpppaaDoor
namespace Rows

/-- THE TIED CARD OF 'hornbeamlaw7.XtokNumbers'. -/
def xtokNumbersCard : Claim7 := { stood := { row := xtokNumbersRow, standIns := [], harness := (true, "ff5d86462c2b837c89942ab09e0a9de2ef3637c85c21452f145d7e6dcdc9c6ca"), looks := false }, kinds := [], alts := [], laidByText := true, laidKinds := [.data, .data, .data, .pinned, .pinned], laidTests := true, laidLooks := .later }
def XtokNumbersCardSaid : Prop := Claim7.holds Tryd.pinned (.plain (OpenSpec.ofChange xtokNumbersSpec)) xtokNumbersCard

/-- THE TIED CARD OF 'hornbeamlaw7.XtokBack'. -/
def xtokBackCard : Claim7 := { stood := { row := xtokBackRow, standIns := [], harness := (true, "ff5d86462c2b837c89942ab09e0a9de2ef3637c85c21452f145d7e6dcdc9c6ca"), looks := false }, kinds := [], alts := [], laidByText := true, laidKinds := [.data, .data, .data, .pinned, .pinned], laidTests := true, laidLooks := .later }
def XtokBackCardSaid : Prop := Claim7.holds Tryd.pinned (.plain (OpenSpec.ofChange xtokBackSpec)) xtokBackCard

/-- THE TIED CARD OF 'hornbeamlaw7.XtokValues'. -/
def xtokValuesCard : Claim7 := { stood := { row := xtokValuesRow, standIns := [], harness := (true, "ff5d86462c2b837c89942ab09e0a9de2ef3637c85c21452f145d7e6dcdc9c6ca"), looks := false }, kinds := [], alts := [], laidByText := true, laidKinds := [.data, .data, .data, .pinned, .pinned], laidTests := true, laidLooks := .later }
def XtokValuesCardSaid : Prop := Claim7.holds Tryd.pinned (.plain (OpenSpec.ofChange xtokValuesSpec)) xtokValuesCard

/-- THE SECOND FORM's CARD OF 'hornbeamlaw7.XtokNumbers'. -/
def xtokNumbersUptoCard : Claim7 := { stood := { row := xtokNumbersUptoRow, standIns := [], harness := (true, "ff5d86462c2b837c89942ab09e0a9de2ef3637c85c21452f145d7e6dcdc9c6ca"), looks := false }, kinds := [], alts := [], laidByText := true, laidKinds := [.data, .data, .data, .pinned, .pinned], laidTests := true, laidLooks := .later }
def XtokNumbersUptoCardSaid : Prop := Claim7.holds Tryd.pinned (.plain (OpenSpec.upto xtokNumbersSpec)) xtokNumbersUptoCard

/-- THE SECOND FORM's CARD OF 'hornbeamlaw7.XtokBack'. -/
def xtokBackUptoCard : Claim7 := { stood := { row := xtokBackUptoRow, standIns := [], harness := (true, "ff5d86462c2b837c89942ab09e0a9de2ef3637c85c21452f145d7e6dcdc9c6ca"), looks := false }, kinds := [], alts := [], laidByText := true, laidKinds := [.data, .data, .data, .pinned, .pinned], laidTests := true, laidLooks := .later }
def XtokBackUptoCardSaid : Prop := Claim7.holds Tryd.pinned (.plain (OpenSpec.upto xtokBackSpec)) xtokBackUptoCard

/-- THE SECOND FORM's CARD OF 'hornbeamlaw7.XtokValues'. -/
def xtokValuesUptoCard : Claim7 := { stood := { row := xtokValuesUptoRow, standIns := [], harness := (true, "ff5d86462c2b837c89942ab09e0a9de2ef3637c85c21452f145d7e6dcdc9c6ca"), looks := false }, kinds := [], alts := [], laidByText := true, laidKinds := [.data, .data, .data, .pinned, .pinned], laidTests := true, laidLooks := .later }
def XtokValuesUptoCardSaid : Prop := Claim7.holds Tryd.pinned (.plain (OpenSpec.upto xtokValuesSpec)) xtokValuesUptoCard
end Rows
end Go.Proofs.YtmhhkekokfpppaaDoor
