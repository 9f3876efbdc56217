/- A region that draws its order, whose operations only read, and whose callees lay blocks of their own: walked once, in the class of worlds that stand behind the one at hand; no program in sight. -/
import Derived.Test.YtlldpmjnledhgaaGreatDoorMem
import Derived.Deep.QuietTactic
import Derived.BigQuiet
import Derived.Below
namespace Go.Proofs.YtlldpmjnledhgaaGreatDoor
open Go.RowKit
set_option linter.unusedVariables false

/-- What has come behind a world: blocks, draws. -/
structure LW where
  os : Array Obj
  d : Nat
instance : Inhabited LW := ⟨⟨#[], 0⟩⟩
def lift (w : World) (p : LW) : World := { w with heap := w.heap ++ p.os, drawn := p.d }
theorem heap_lift (w : World) (p : LW) {k : Nat} (h : k < w.heap.size) : (lift w p).heap[k]? = w.heap[k]? := by simp [lift, Array.getElem?_append, h]
theorem below_lift (w : World) (p : LW) : Below w.heap.size w (lift w p) := ⟨rfl, rfl, rfl, by simp [lift], fun k hk => heap_lift w p hk⟩
theorem lift_of {w w' : World} (h : Below w.heap.size w w') : ∃ p, w' = lift w p := by
  obtain ⟨h1, h2, h3, h4, h5⟩ := h
  obtain ⟨heap', tape', drawn', os', output'⟩ := w'
  obtain ⟨heap, tape, drawn, os, output⟩ := w
  simp only at h1 h2 h3 h4 h5
  subst h1 h2 h3
  have h5' : ∀ k, k < heap.size → heap'[k]? = heap[k]? := h5
  have h4' : heap.size ≤ heap'.size := h4
  clear h4 h5
  refine ⟨⟨(heap'.toList.drop heap.size).toArray, drawn'⟩, ?_⟩
  unfold lift
  congr 1
  apply Array.ext_getElem?
  intro k
  by_cases hk : k < heap.size
  · rw [h5' k hk, Array.getElem?_append_left hk]
  · rw [Array.getElem?_append_right (show heap.size ≤ k by omega)]
    show heap'[k]? = (heap'.toList.drop heap.size).toArray[k - heap.size]?
    have e : heap.size + (k - heap.size) = k := by omega
    simp [List.getElem?_drop, e]
theorem lift_cell {w : World} {a : Addr} {v : Value} (hb : a.block < w.heap.size) (h : w.cell? a = some v) (p : LW) : (lift w p).cell? a = some v := ((below_lift w p).cell (p := a) hb).trans h
theorem lift_drew (w : World) : ∃ p, { w with drawn := w.drawn + 1 } = lift w p := ⟨⟨#[], w.drawn + 1⟩, by unfold lift; simp⟩
theorem calls_lift {P : Program} {f : FuncId} {args : Array Value} {w : World} {p : LW} {v : Value} (h : Calls P f args (lift w p) fun e w' => e = .returned v ∧ Below (lift w p).heap.size (lift w p) w') :
    Calls P f args (lift w p) fun e w'' => e = .returned v ∧ ∃ p', w'' = lift w p' :=
  h.mono fun _ _ ⟨he, hB⟩ => ⟨he, lift_of ((below_lift w p).trans (hB.mono (below_lift w p).size))⟩
theorem wp_region_quiet_below {P : Program} {id : Nat} {Q : Exit → Act → World → Prop} {a : Act} {w : World} {l : List Oper} (hm : P.follows .mixedOrders = true) (hB : Region.lexB .any l.toArray = true)
    (h : wpQuiet P l.toArray (fun w' => ∃ p : LW, w' = lift w p) (fun a' => ∀ w', (∃ p : LW, w' = lift w p) → Q .normal a' w') l a) : (Code.region id l.toArray true).wp P Q a w :=
  wp_region_quiet (C := fun w' => ∃ p : LW, w' = lift w p) hm hB (lift_drew w) (by simpa using h)
end Go.Proofs.YtlldpmjnledhgaaGreatDoor
