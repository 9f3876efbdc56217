/- Numbers as the document has them: digits of base 10,000, the lowest first: plain laws. -/
import Derived.WalkKit
import Derived.Lib.ItoaNum
namespace Go.Proofs.YtgdnibdahldekabDoor
set_option linter.unusedVariables false

/-- A number's digits of base 10,000. -/
def limbs (u : Nat) : List Int := if h : u = 0 then [] else ((u % 10000 : Nat) : Int) :: limbs (u / 10000)
termination_by u
decreasing_by omega
theorem limbs_zero : limbs 0 = [] := by rw [limbs, dif_pos rfl]
theorem limbs_pos {u : Nat} (h : 0 < u) : limbs u = ((u % 10000 : Nat) : Int) :: limbs (u / 10000) := by rw [limbs, dif_neg (by omega)]
theorem limbs_nil {u : Nat} (h : limbs u = []) : u = 0 := by
  apply Decidable.byContradiction
  intro hn
  rw [limbs_pos (by omega)] at h
  cases h
theorem limbs_small {u : Nat} (h0 : 0 < u) (h : u < 10000) : limbs u = [(u : Int)] := by
  rw [limbs_pos h0, show u % 10000 = u by omega, show u / 10000 = 0 by omega, limbs_zero]
theorem limbs_range : ∀ (u : Nat), ∀ x ∈ limbs u, 0 ≤ x ∧ x < 10000 := by
  intro u
  induction u using Nat.strongRecOn with
  | ind u ih =>
    intro x hx
    by_cases h : u = 0
    · subst h; rw [limbs_zero] at hx; cases hx
    · rw [limbs_pos (by omega)] at hx
      rcases List.mem_cons.1 hx with rfl | hx
      · omega
      · exact ih (u / 10000) (by omega) x hx
theorem limbs_len : ∀ (k u : Nat), u < 10000 ^ k → (limbs u).length ≤ k
  | 0, u, h => by
    have : u = 0 := by simp at h; omega
    rw [this, limbs_zero]; exact Nat.le_refl _
  | k + 1, u, h => by
    by_cases h0 : u = 0
    · rw [h0, limbs_zero]; exact Nat.zero_le _
    · rw [limbs_pos (by omega), List.length_cons]
      have := limbs_len k (u / 10000) (by rw [Nat.pow_succ] at h; exact Nat.div_lt_of_lt_mul (by rw [Nat.mul_comm]; exact h))
      omega
theorem limbs_len5 {u : Nat} (h : u < 18446744073709551616) : (limbs u).length ≤ 5 := limbs_len 5 u (by omega)
theorem limbs_last : ∀ (u : Nat), 0 < u → (limbs u).getD ((limbs u).length - 1) 0 ≠ 0 := by
  intro u
  induction u using Nat.strongRecOn with
  | ind u ih =>
    intro h
    by_cases hb : u < 10000
    · rw [limbs_small h hb]
      simp; omega
    · have ih' := ih (u / 10000) (by omega) (by omega)
      rw [limbs_pos h]
      have hl : 0 < (limbs (u / 10000)).length := by
        rw [limbs_pos (show 0 < u / 10000 by omega)]; simp
      rw [List.length_cons, show (limbs (u / 10000)).length + 1 - 1 = (limbs (u / 10000)).length - 1 + 1 by omega, List.getD_cons_succ]
      exact ih'
/-- One digit of base 10,000, if it is none but 0. -/
def dig (x : Int) : List Int := if x = 0 then [] else [x]
theorem dig_len (x : Int) : (dig x).length = if x = 0 then 0 else 1 := by unfold dig; split <;> rfl

/-- The decimal digits; of 0 none. -/
def dec0 (u : Nat) : List UInt8 := if u = 0 then [] else Lib.decDigits u
theorem dec0_zero : dec0 0 = [] := rfl
theorem dec0_pos {u : Nat} (h : 0 < u) : dec0 u = dec0 (u / 10) ++ [UInt8.ofNat (48 + u % 10)] := by
  unfold dec0
  rw [if_neg (by omega), Lib.decDigits]
  by_cases h1 : u < 10
  · rw [dif_pos h1, if_pos (by omega), show u % 10 = u by omega]; rfl
  · rw [dif_neg h1, if_neg (by omega)]
theorem dec0_all {u : Nat} (h : 0 < u) : Lib.decDigits u = dec0 u := by unfold dec0; rw [if_neg (by omega)]
theorem dec_zero : Lib.decDigits 0 = [48] := by rw [Lib.decDigits, dif_pos (by omega)]; rfl
theorem pad_digit (X e : Nat) : X % 10 ^ (e + 1) % 10 = X % 10 := by rw [Nat.pow_succ]; exact Nat.mod_mul_left_mod _ _ _
theorem pad_rest (X e : Nat) : X % 10 ^ (e + 1) / 10 = X / 10 % 10 ^ e := by rw [Nat.pow_succ, Nat.mul_comm]; exact Nat.mod_mul_right_div_self _ _ _
end Go.Proofs.YtgdnibdahldekabDoor
