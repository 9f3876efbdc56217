/- Small words. -/
import Derived.Test.YtajnpmhgldfgfaaXpAL
import Derived.ProofKit
namespace Go.Proofs.Ytajnpmhgldfgfaa
open Go.RowKit
set_option linter.unusedVariables false

/-- A row's cells, element by element. -/
theorem flat_at {α β : Type} (f : α → List β) (m : Nat) (hm : ∀ x, (f x).length = m) : ∀ (l : List α) (k i : Nat) (x : α), l[k]? = some x → i < m → (l.flatMap f)[k * m + i]? = (f x)[i]?
  | [], k, i, x, h, _ => by cases h
  | a :: l, 0, i, x, h, hi => by
    obtain rfl : a = x := by simpa using h
    rw [List.flatMap_cons, Nat.zero_mul, Nat.zero_add, List.getElem?_append_left (by rw [hm]; exact hi)]
  | a :: l, k + 1, i, x, h, hi => by
    rw [List.flatMap_cons, List.getElem?_append_right (by rw [hm, Nat.succ_mul]; omega), hm, show (k + 1) * m + i - m = k * m + i from by rw [Nat.succ_mul]; omega]
    exact flat_at f m hm l k i x (by simpa using h) hi
theorem str_beq (a b : List UInt8) : ((⟨a.toArray⟩ : ByteArray).toList == (⟨b.toArray⟩ : ByteArray).toList) = (a == b) := by rw [ByteArray.toList_eq, ByteArray.toList_eq]
theorem valueX_code {ca : Nat} {q : UInt8} : ∀ (f : Nat) (l : List UInt8) (a : Nat) (acc : List UInt8) (e : XE), valueX ca q f l a acc = .bad e → e.code = 11
  | 0, l, a, acc, e, h => by cases h
  | f + 1, [], a, acc, e, h => by cases h; rfl
  | f + 1, c :: t, a, acc, e, h => by
    unfold valueX at h
    simp only at h
    split at h
    · cases h
    split at h
    · cases h; rfl
    split at h
    · split at h
      · cases h; rfl
      · exact valueX_code f _ _ _ e h
    split at h
    · exact valueX_code f _ _ _ e h
    split at h
    · exact valueX_code f _ _ _ e h
    · exact valueX_code f _ _ _ e h
end Go.Proofs.Ytajnpmhgldfgfaa
