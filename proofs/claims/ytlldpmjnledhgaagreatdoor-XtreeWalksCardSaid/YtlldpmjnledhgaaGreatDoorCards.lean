/-
  DERIVED. GIVEN WITH THE SEED: THE CARDS: each row of YtlldpmjnledhgaaGreatDoorRows.lean that lists a variable, with what it lists TIED to the program's text (the seventh form; the later family's looks); each row that meets fmt, with fmt's text TOLD by the authors' own Lean function (tested against real Go, not proved from fmt's source: count such statements apart). THE CARD IS WHAT COUNTS. Prove the row's statement (the work); the ties are given (YtlldpmjnledhgaaGreatDoorTie.lean); close each card by the builder's one call (the guide's Derived/Test/ToyasCard.lean, 'card_holds'). Laid BY PROGRAM, IN A SANDBOX (cutbox-door.mjs). By AI agents, Wed Nov 11 2026. No macro, syntax, notation, axiom, sorry.
-/
import Derived.Test.YtlldpmjnledhgaaGreatDoorRows
import GoSem.ClaimSeven
namespace Go.Proofs.YtlldpmjnledhgaaGreatDoor
namespace Rows

/-- THE TIED CARD OF 'hornbeamlaw8.XtreeNests'. -/
def xtreeNestsCard : Claim7 := { stood := { row := xtreeNestsRow, standIns := [], harness := (true, "6728cac493f232c75ce5ed1272fa352a58101efb9ae072625136b4426920b270"), looks := false }, kinds := [], alts := [], laidByText := true, laidKinds := [.data, .data, .data, .pinned, .pinned], laidTests := true, laidLooks := .later }
def XtreeNestsCardSaid : Prop := Claim7.holds Tryz.pinned (.plain (OpenSpec.ofChange xtreeNestsSpec)) xtreeNestsCard

/-- THE TIED CARD OF 'hornbeamlaw8.XtreeUnclosed'. -/
def xtreeUnclosedCard : Claim7 := { stood := { row := xtreeUnclosedRow, standIns := [], harness := (true, "6728cac493f232c75ce5ed1272fa352a58101efb9ae072625136b4426920b270"), looks := false }, kinds := [], alts := [], laidByText := true, laidKinds := [.data, .data, .data, .pinned, .pinned], laidTests := true, laidLooks := .later }
def XtreeUnclosedCardSaid : Prop := Claim7.holds Tryz.pinned (.plain (OpenSpec.ofChange xtreeUnclosedSpec)) xtreeUnclosedCard

/-- THE TIED CARD OF 'hornbeamlaw8.XtreeWalks'. -/
def xtreeWalksCard : Claim7 := { stood := { row := xtreeWalksRow, standIns := [], harness := (true, "6728cac493f232c75ce5ed1272fa352a58101efb9ae072625136b4426920b270"), looks := false }, kinds := [], alts := [], laidByText := true, laidKinds := [.data, .data, .data, .pinned, .pinned], laidTests := true, laidLooks := .later }
def XtreeWalksCardSaid : Prop := Claim7.holds Tryz.pinned (.plain (OpenSpec.ofChange xtreeWalksSpec)) xtreeWalksCard

/-- THE SECOND FORM's CARD OF 'hornbeamlaw8.XtreeNests'. -/
def xtreeNestsUptoCard : Claim7 := { stood := { row := xtreeNestsUptoRow, standIns := [], harness := (true, "6728cac493f232c75ce5ed1272fa352a58101efb9ae072625136b4426920b270"), looks := false }, kinds := [], alts := [], laidByText := true, laidKinds := [.data, .data, .data, .pinned, .pinned], laidTests := true, laidLooks := .later }
def XtreeNestsUptoCardSaid : Prop := Claim7.holds Tryz.pinned (.plain (OpenSpec.upto xtreeNestsSpec)) xtreeNestsUptoCard

/-- THE SECOND FORM's CARD OF 'hornbeamlaw8.XtreeUnclosed'. -/
def xtreeUnclosedUptoCard : Claim7 := { stood := { row := xtreeUnclosedUptoRow, standIns := [], harness := (true, "6728cac493f232c75ce5ed1272fa352a58101efb9ae072625136b4426920b270"), looks := false }, kinds := [], alts := [], laidByText := true, laidKinds := [.data, .data, .data, .pinned, .pinned], laidTests := true, laidLooks := .later }
def XtreeUnclosedUptoCardSaid : Prop := Claim7.holds Tryz.pinned (.plain (OpenSpec.upto xtreeUnclosedSpec)) xtreeUnclosedUptoCard

/-- THE SECOND FORM's CARD OF 'hornbeamlaw8.XtreeWalks'. -/
def xtreeWalksUptoCard : Claim7 := { stood := { row := xtreeWalksUptoRow, standIns := [], harness := (true, "6728cac493f232c75ce5ed1272fa352a58101efb9ae072625136b4426920b270"), looks := false }, kinds := [], alts := [], laidByText := true, laidKinds := [.data, .data, .data, .pinned, .pinned], laidTests := true, laidLooks := .later }
def XtreeWalksUptoCardSaid : Prop := Claim7.holds Tryz.pinned (.plain (OpenSpec.upto xtreeWalksSpec)) xtreeWalksUptoCard
end Rows
end Go.Proofs.YtlldpmjnledhgaaGreatDoor
