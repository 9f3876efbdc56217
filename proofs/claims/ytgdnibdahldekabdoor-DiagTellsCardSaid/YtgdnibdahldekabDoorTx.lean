/- Two rows in boxes besides each other, seen from a later world; what is told till one has enough; no program in sight. -/
import Derived.Test.YtgdnibdahldekabDoorTw
namespace Go.Proofs.YtgdnibdahldekabDoor
open Go.RowKit Go.Shelf
set_option linter.unusedVariables false

/-- Of a list what is told till one has enough. -/
def cutL {α : Type} (stop : Int) (xs : List α) : List α := if 1 ≤ stop then xs.take stop.toNat else xs

section
variable {base BA BB : Nat} {tA tB eA eB : TypeId} {sA sB : Nat} {L : List (Nat × TypeId × Array Value)} {W0 W W' : World} {bA bB vA : Value} {kA : Nat} {xA : List Value} {vB : Value} {kB : Nat} {xB : List Value}
theorem TS.rebase (h : TS base BA BB tA tB eA eB sA sB L W0 W bA bB vA kA xA vB kB xB) : TS base BA BB tA tB eA eB sA sB L W W bA bB vA kA xA vB kB xB :=
  { h with keeps := KeepsOthers.refl _, below := Below.refl _ _ }
theorem TS.drew (h : TS base BA BB tA tB eA eB sA sB L W0 W bA bB vA kA xA vB kB xB) : TS base BA BB tA tB eA eB sA sB L W0 W.drew bA bB vA kA xA vB kB xB :=
  { boxA := h.boxA, boxB := h.boxB, rowA := h.rowA.drew, rowB := h.rowB.drew, apart := h.apart, aA := h.aA, aB := h.aB, bA' := h.bA', bB' := h.bB', stay := h.stay, keeps := h.keeps.trans (KeepsOthers.drew _), below := h.below.drew, room := h.room, ne := h.ne, geA := h.geA, geB := h.geB }
theorem TS.owned (h : TS base BA BB tA tB eA eB sA sB L W W bA bB vA kA xA vB kB xB) {row : Option Nat} (hg : W.grownBy W' row) (hr : ∀ r, row = some r → ∃ o : Obj, W.heap[r]? = some o ∧ o.isCells = false) :
    TS base BA BB tA tB eA eB sA sB L W' W' bA bB vA kA xA vB kB xB where
  boxA := boxed_own _ _ (fun _ => bA) () W W' row h.boxA hg hr
  boxB := boxed_own _ _ (fun _ => bB) () W W' row h.boxB hg hr
  rowA := row_own _ _ _ vA (fun _ => kA) (fun _ => xA) () W W' row h.rowA hg hr
  rowB := row_own _ _ _ vB (fun _ => kB) (fun _ => xB) () W W' row h.rowB hg hr
  apart := h.apart
  aA := h.aA
  aB := h.aB
  bA' := h.bA'
  bB' := h.bB'
  stay := fun p hp => by
    obtain ⟨h1, h2⟩ := h.stay p hp
    exact ⟨blk_own _ _ (fun _ => p.2.2) () W W' row h1 hg hr, h2⟩
  keeps := KeepsOthers.refl _
  below := Below.refl _ _
  room := Nat.le_trans h.room hg.size
  ne := h.ne
  geA := h.geA
  geB := h.geB
end

end Go.Proofs.YtgdnibdahldekabDoor
