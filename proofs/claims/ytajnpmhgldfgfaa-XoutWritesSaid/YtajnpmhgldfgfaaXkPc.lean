/- Which characters a text is spoilt by. -/
import Derived.Test.YtajnpmhgldfgfaaXkAL
import Derived.Test.YtajnpmhgldfgfaaUtI
namespace Go.Proofs.Ytajnpmhgldfgfaa
open Go.RowKit Go.Shelf
set_option linter.unusedVariables false
def offChar (p : Nat × Nat) : Bool := !charR (p.2 : Int)
theorem charsX_bytes {s : List UInt8} (h : checkL s ≠ s.length) : charsX s = some ⟨11, checkL s, wBytes⟩ := if_pos h
theorem charsX_done {s : List UInt8} (h0 : checkL s = s.length) (h : ∀ p ∈ allRunes s, offChar p = false) : charsX s = none := by
  unfold charsX
  rw [if_neg (by simp [h0]), List.find?_eq_none.2 (fun p hp => by have := h p hp; unfold offChar at this; simp only [this]; decide)]
theorem charsX_stop {s : List UInt8} {pre : List (Nat × Nat)} {x : Nat × Nat} (h0 : checkL s = s.length) (hp : pre ++ [x] <+: allRunes s) (h : ∀ q ∈ pre, offChar q = false) (hx : offChar x = true) : charsX s = some ⟨11, x.1, wCharacter⟩ := by
  unfold charsX
  rw [if_neg (by simp [h0])]
  show (match (allRunes s).find? offChar with | some p => some (⟨11, p.1, wCharacter⟩ : XE) | none => none) = _
  rw [find_prefix hp h hx]
end Go.Proofs.Ytajnpmhgldfgfaa
