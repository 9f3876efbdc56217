/- What a name at the front comes to, told from its characters; no program in sight. -/
import Derived.Test.YtmhhkekokfpppaaDoorXkB
namespace Go.Proofs.YtmhhkekokfpppaaDoor
open Go.RowKit
set_option linter.unusedVariables false

/-- Is this character no part of a name that begins at 0? -/
def offName (p : Nat × Nat) : Bool := !namePartR (p.2 : Int) || (p.1 == 0 && !nameStartR (p.2 : Int))
theorem nameX_done {l : List UInt8} (h : ∀ p ∈ allRunes l, offName p = false) : nameX l = l.length := by
  unfold nameX
  rw [List.find?_eq_none.2 (fun p hp => by have := h p hp; unfold offName at this; simp only [this]; decide)]
theorem find_prefix {α : Type} {P : α → Bool} {a pre : List α} {x : α} (hp : pre ++ [x] <+: a) (h : ∀ q ∈ pre, P q = false) (hx : P x = true) : a.find? P = some x := by
  obtain ⟨r, rfl⟩ := hp
  rw [List.append_assoc, List.find?_append, List.find?_eq_none.2 (fun q hq => by simp [h q hq])]
  simp [hx]
theorem nameX_stop {l : List UInt8} {pre : List (Nat × Nat)} {x : Nat × Nat} (hp : pre ++ [x] <+: allRunes l) (h : ∀ q ∈ pre, offName q = false) (hx : offName x = true) : nameX l = x.1 := by
  show (match (allRunes l).find? offName with | some p => p.1 | none => l.length) = x.1
  rw [find_prefix hp h hx]
/-- Digits that are read one by one. -/
theorem numX_bad {b : Nat} {s : List UInt8} {k r : Nat} {c : UInt8} (hc : s[k]? = some c) (h : b ≤ digitX c.toNat) : numX b (s.drop k) r = none := by
  obtain ⟨h1, h2⟩ := List.getElem?_eq_some_iff.1 hc
  rw [List.drop_eq_getElem_cons h1, h2, numX, if_pos h]
theorem numX_go {b : Nat} {s : List UInt8} {k r : Nat} {c : UInt8} (hc : s[k]? = some c) (h : ¬ b ≤ digitX c.toNat) : numX b (s.drop k) r = numX b (s.drop (k + 1)) (r * b + digitX c.toNat) := by
  obtain ⟨h1, h2⟩ := List.getElem?_eq_some_iff.1 hc
  rw [List.drop_eq_getElem_cons h1, h2, numX, if_neg h]
theorem numX_end {b : Nat} {s : List UInt8} {k r : Nat} (hk : s.length ≤ k) : numX b (s.drop k) r = some r := by
  rw [List.drop_of_length_le hk, numX]
theorem charX_len0 {l : List UInt8} {b m : Nat} (h : l.length < 1 ∨ m < l.length) : charX l b m = none := if_pos h
theorem charX_num {l : List UInt8} {b m : Nat} (h : ¬ (l.length < 1 ∨ m < l.length)) : charX l b m = (numX b l 0).bind fun r => if charR (r : Int) then some (putR r) else none := if_neg h
theorem charR_width {r : Nat} (h : charR (r : Int) = true) : widthR (r : Int) ≠ 0 := by
  intro e
  have hz : widthR (r : Int) = 0 → (1114112 ≤ r ∨ (55296 ≤ r ∧ r ≤ 57343)) := by
    intro e
    by_cases h1 : (1114112 ≤ r ∨ (55296 ≤ r ∧ r ≤ 57343))
    · exact h1
    · have := widthR_pos (r := (r : Int)) (by omega)
      omega
  have := hz e
  unfold charR at h
  rw [e] at h
  simp only [Int.lt_irrefl, and_false, or_false, decide_eq_true_eq] at h
  omega
end Go.Proofs.YtmhhkekokfpppaaDoor
