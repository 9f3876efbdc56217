/- Plain laws on characters: whole texts together. -/
import Derived.Test.YtmhhkekokfpppaaDoorUtA
namespace Go.Proofs.YtmhhkekokfpppaaDoor
open Go.RowKit
set_option linter.unusedVariables false
theorem nextL_eq {c : UInt8} {t : List UInt8} {n r : Nat} (hn : leadN c.toNat = (n, r)) :
    nextL (c :: t) = if n = 0 ∨ t.length + 1 < n then none else (match contsGo (((c :: t).take n).drop 1) r with
      | none => none
      | some q => if widthR q = (n : Int) then some (q, n) else none) := by
  simp only [nextL, hn]
  rfl
theorem nextL_append {a b : List UInt8} {p : Nat × Nat} (h : nextL a = some p) : nextL (a ++ b) = some p := by
  cases a with
  | nil => cases h
  | cons c t =>
    obtain ⟨n, r, hn⟩ : ∃ n r, leadN c.toNat = (n, r) := ⟨_, _, rfl⟩
    rw [List.cons_append, nextL_eq hn]
    rw [nextL_eq hn] at h
    by_cases hs : n = 0 ∨ t.length + 1 < n
    · rw [if_pos hs] at h; cases h
    · rw [if_neg hs] at h
      rw [if_neg (by simp; omega)]
      have : (c :: (t ++ b)).take n = (c :: t).take n := by
        rw [← List.cons_append, List.take_append_of_le_length (by simp; omega)]
      rw [this]
      exact h
theorem runesL_append : ∀ (k : Nat) (a b : List UInt8), a.length ≤ k → checkL a = a.length → runesL (a ++ b) = runesL a ++ runesL b
  | 0, a, b, h, _ => by
    obtain rfl : a = [] := List.eq_nil_of_length_eq_zero (by omega)
    rw [runesL_none (l := []) rfl]; rfl
  | k + 1, a, b, h, hw => by
    cases hn : nextL a with
    | none =>
      rw [checkL_none hn] at hw
      obtain rfl : a = [] := List.eq_nil_of_length_eq_zero hw.symm
      rw [runesL_none (l := []) rfl]; rfl
    | some p =>
      obtain ⟨r, n⟩ := p
      have hb := nextL_bd hn
      rw [checkL_some hn] at hw
      rw [runesL_some (nextL_append (b := b) hn), runesL_some hn, List.drop_append_of_le_length hb.2.1, runesL_append k (a.drop n) b (by simp; omega) (by simp; omega)]
      rfl
theorem checkL_append (a b : List UInt8) (h : checkL a = a.length) : checkL (a ++ b) = a.length + checkL b := by
  rw [checkL, runesL_append _ a b (Nat.le_refl _) h, List.map_append, List.sum_append, ← checkL, ← checkL, h]
theorem count_append (a b : List UInt8) (h : checkL a = a.length) : (runesL (a ++ b)).length = (runesL a).length + (runesL b).length := by
  rw [runesL_append _ a b (Nat.le_refl _) h, List.length_append]
theorem count_le (a : List UInt8) : (runesL a).length ≤ checkL a := runesL_len_le _ a (Nat.le_refl _)
end Go.Proofs.YtmhhkekokfpppaaDoor
