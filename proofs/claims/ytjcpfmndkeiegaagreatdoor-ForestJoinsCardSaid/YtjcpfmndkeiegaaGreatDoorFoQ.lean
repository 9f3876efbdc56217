/- Plain words: the sum, the greatest and the least of fractions, fractions in order; none of them minds an order. -/
import Derived.Test.YtjcpfmndkeiegaaGreatDoorNaZ
namespace Go.Proofs.YtjcpfmndkeiegaaGreatDoor
set_option linter.unusedVariables false

def sumQ (qs : List Rat) : Rat := qs.foldl (· + ·) 0
theorem sumQ_snoc (qs : List Rat) (q : Rat) : sumQ (qs ++ [q]) = sumQ qs + q := by simp [sumQ]
theorem sumQ_perm {a b : List Rat} (h : a.Perm b) : sumQ a = sumQ b :=
  h.foldl_eq' (fun x _ y _ z => by rw [Rat.add_assoc, Rat.add_assoc, Rat.add_comm x y]) 0
theorem cmpQ_lt {a b : Rat} : cmpQ a b = -1 ↔ a < b := by
  unfold cmpQ
  by_cases h1 : a < b
  · simp [h1]
  · by_cases h2 : b < a <;> simp [h1, h2]
theorem cmpQ_gt {a b : Rat} : cmpQ a b = 1 ↔ b < a := by
  unfold cmpQ
  by_cases h1 : a < b
  · have : ¬ b < a := Rat.not_lt.2 (Rat.le_of_lt h1)
    simp [h1, this]
  · by_cases h2 : b < a <;> simp [h1, h2]
/-- One of some that none compares so with. -/
def IsPick (way : Int) (qs : List Rat) (x : Rat) : Prop := x ∈ qs ∧ ∀ y ∈ qs, cmpQ y x ≠ way
theorem ltQ_trans {a b c : Rat} (h1 : a < b) (h2 : b < c) : a < c := by
  rw [← Rat.not_le] at *
  exact fun h => h2 (Rat.le_trans h (Rat.le_of_lt (Rat.not_le.1 h1)))
theorem ltQ_irrefl (a : Rat) : ¬ a < a := fun h => by rw [← Rat.not_le] at h; exact h Rat.le_refl
theorem isPick_one {way : Int} (hw : way = 1 ∨ way = -1) (r : Rat) : IsPick way [r] r := by
  refine ⟨List.mem_singleton.2 rfl, fun y hy => ?_⟩
  rw [List.mem_singleton.1 hy]
  rcases hw with rfl | rfl
  · rw [Ne, cmpQ_gt]; exact ltQ_irrefl r
  · rw [Ne, cmpQ_lt]; exact ltQ_irrefl r
theorem isPick_take {way : Int} (hw : way = 1 ∨ way = -1) {pre : List Rat} {x r : Rat} (h : IsPick way pre x) (hr : cmpQ r x = way) : IsPick way (pre ++ [r]) r := by
  refine ⟨by simp, fun y hy => ?_⟩
  rcases List.mem_append.1 hy with hy | hy
  · have := h.2 y hy
    rcases hw with rfl | rfl
    · rw [Ne, cmpQ_gt] at *
      exact fun h' => this (ltQ_trans hr h')
    · rw [Ne, cmpQ_lt] at *
      exact fun h' => this (ltQ_trans h' hr)
  · exact (isPick_one hw r).2 y hy
theorem isPick_keep {way : Int} {pre : List Rat} {x r : Rat} (h : IsPick way pre x) (hr : cmpQ r x ≠ way) : IsPick way (pre ++ [r]) x := by
  refine ⟨List.mem_append.2 (.inl h.1), fun y hy => ?_⟩
  rcases List.mem_append.1 hy with hy | hy
  · exact h.2 y hy
  · rw [List.mem_singleton.1 hy]; exact hr
theorem isPick_same {way : Int} (hw : way = 1 ∨ way = -1) {a b : List Rat} {x y : Rat} (ha : IsPick way a x) (hb : IsPick way b y) (h : a.Perm b) : x = y := by
  have h1 := ha.2 y (h.mem_iff.2 hb.1)
  have h2 := hb.2 x (h.mem_iff.1 ha.1)
  rcases hw with rfl | rfl
  · rw [Ne, cmpQ_gt] at h1 h2
    exact Rat.le_antisymm (Rat.not_lt.1 h2) (Rat.not_lt.1 h1)
  · rw [Ne, cmpQ_lt] at h1 h2
    exact Rat.le_antisymm (Rat.not_lt.1 h1) (Rat.not_lt.1 h2)
/-- Fractions that are in order are told by what they are. -/
theorem inOrder_same {a b : List Rat} (h : a.Perm b) (ha : ∀ i j, i < j → j < a.length → ¬ a.getD j 0 < a.getD i 0) (hb : ∀ i j, i < j → j < b.length → ¬ b.getD j 0 < b.getD i 0) : a = b := by
  have key : ∀ l : List Rat, (∀ i j, i < j → j < l.length → ¬ l.getD j 0 < l.getD i 0) → l.Pairwise (· ≤ ·) := fun l hl => by
    rw [List.pairwise_iff_getElem]
    intro i j hi hj hij
    have := hl i j hij hj
    rw [List.getD, List.getD, List.getElem?_eq_getElem hi, List.getElem?_eq_getElem hj] at this
    exact Rat.not_lt.1 this
  exact List.Perm.eq_of_pairwise (le := fun x y => x ≤ y) (fun x y _ _ h1 h2 => Rat.le_antisymm h1 h2) (key a ha) (key b hb) h
/-- A fraction's size. -/
def weeQ (q : Rat) : Prop := szN (numQ q) ≤ 1200 ∧ szN q.den ≤ 1200
end Go.Proofs.YtjcpfmndkeiegaaGreatDoor
