/- Blocks in order, merged two by two: plain laws over places; no program in sight. -/
import Derived.Test.YtgdnibdahldekabDoorSmT
namespace Go.Proofs.YtgdnibdahldekabDoor
set_option linter.unusedVariables false

theorem divq {q s k : Nat} (h1 : q * s ≤ k) (h2 : k < q * s + s) : k / s = q :=
  Nat.div_eq_of_lt_le h1 (by rw [Nat.add_mul, Nat.one_mul]; exact h2)
theorem lt_of_div {i j s : Nat} (h : i / s < j / s) : i < j := by
  apply Decidable.byContradiction
  intro hn
  have := Nat.div_le_div_right (c := s) (show j ≤ i by omega)
  omega
/-- Blocks of s places: each is in order, as far as a. -/
def Blk (K : Nat → Int) (f : Nat → Nat) (n s a : Nat) : Prop := ∀ i j, i < j → j < n → j < a → i / s = j / s → LK K (f i) (f j)
/-- Blocks of s places: what stands in an earlier one came earlier. -/
def Tag (f : Nat → Nat) (n s : Nat) : Prop := ∀ i j, j < n → i / s < j / s → f i < f j
theorem Tag.moves {f g : Nat → Nat} {n s c d q : Nat} (h : Tag f n s) (m : Moves f g c d) (hc : q * s ≤ c) (hd : d ≤ q * s + s) (hn : d ≤ n) : Tag g n s := fun i j hj hij => by
  have key : ∀ k, ∃ k', g k = f k' ∧ k' / s = k / s ∧ (k < n → k' < n) := fun k => by
    by_cases hk : c ≤ k ∧ k < d
    · obtain ⟨k', h1, h2, h3⟩ := m.inn k hk.1 hk.2
      exact ⟨k', h3, by rw [divq (q := q) (by omega) (by omega), divq (q := q) (by omega) (by omega)], fun _ => by omega⟩
    · exact ⟨k, m.out k (by omega), rfl, id⟩
  obtain ⟨i', a1, a2, a3⟩ := key i
  obtain ⟨j', b1, b2, b3⟩ := key j
  rw [a1, b1]
  exact h i' j' (b3 hj) (by rw [a2, b2]; exact hij)
theorem Tag.double {f : Nat → Nat} {n s : Nat} (h : Tag f n s) : Tag f n (2 * s) := fun i j hj hij => by
  apply h i j hj
  have h1 := lt_of_div hij
  have h2 := Nat.div_le_div_right (c := s) (show i ≤ j by omega)
  rcases Nat.lt_or_ge (i / s) (j / s) with h3 | h3
  · exact h3
  · exfalso
    have h4 : i / s = j / s := by omega
    have e : ∀ k, k / (2 * s) = k / s / 2 := fun k => by rw [Nat.mul_comm, Nat.div_div_eq_div_mul]
    rw [e i, e j, h4] at hij
    omega
theorem Tag.of_inc {f : Nat → Nat} {n s : Nat} (h : ∀ i j, i < j → j < n → f i < f j) : Tag f n s := fun i j hj hij => h i j (lt_of_div hij) hj
theorem Blk.zero (K : Nat → Int) (f : Nat → Nat) (n s : Nat) : Blk K f n s 0 := fun i j _ _ h _ => absurd h (Nat.not_lt_zero _)
theorem Blk.step {K : Nat → Int} {f g : Nat → Nat} {n s c d q : Nat} (h : Blk K f n s c) (m : Moves f g c d) (hs : Srt K g c d) (hc : c = q * s) (hd : ∀ k, k < n → k < c + s → k < d) : Blk K g n s (c + s) := fun i j h1 h2 h3 h4 => by
  by_cases hj : j < c
  · rw [m.out i (by omega), m.out j (by omega)]
    exact h i j h1 h2 hj h4
  · have e : j / s = q := divq (by omega) (by omega)
    have hi : c ≤ i := by
      have := Nat.div_mul_le_self i s
      rw [h4, e] at this
      omega
    exact hs i j hi h1 (hd j h2 h3)
/-- The last block is whole: all are. -/
theorem Blk.all {K : Nat → Int} {f : Nat → Nat} {n s a : Nat} (h : Blk K f n s a) (ha : n ≤ a) : Blk K f n s n := fun i j h1 h2 h3 h4 => h i j h1 h2 (by omega) h4
theorem Blk.srt {K : Nat → Int} {f : Nat → Nat} {n s : Nat} (h : Blk K f n s n) (hs : n ≤ s) : Srt K f 0 n := fun i j h1 h2 h3 =>
  h i j h2 h3 h3 (by rw [Nat.div_eq_of_lt (by omega), Nat.div_eq_of_lt (by omega)])
/-- Two blocks besides each other are ready to be merged. -/
theorem Blk.mrg {K : Nat → Int} {f : Nat → Nat} {n s c b q : Nat} (h : Blk K f n s n) (t : Tag f n s) (hc : c = q * (2 * s)) (hb : b ≤ c + 2 * s) (hbn : b ≤ n) (hlt : c + s ≤ b) : Mrg K f c (c + s) b := by
  have hq : q * (2 * s) = q * 2 * s := by rw [Nat.mul_assoc]
  have hq1 : (q * 2 + 1) * s = q * 2 * s + s := by rw [Nat.add_mul, Nat.one_mul]
  have lo : ∀ k, c ≤ k → k < c + s → k / s = q * 2 := fun k h1 h2 => divq (by omega) (by omega)
  have hi : ∀ k, c + s ≤ k → k < b → k / s = q * 2 + 1 := fun k h1 h2 => divq (by omega) (by omega)
  exact ⟨fun i j h1 h2 h3 => h i j h2 (by omega) (by omega) (by rw [lo i h1 (by omega), lo j (by omega) h3]),
    fun i j h1 h2 h3 => h i j h2 (by omega) (by omega) (by rw [hi i h1 (by omega), hi j (by omega) h3]),
    fun i j h1 h2 h3 h4 => t i j (by omega) (by rw [lo i h1 h2, hi j h3 h4]; omega)⟩
/-- What is left is but one block: it is in order as it is. -/
theorem Blk.rest {K : Nat → Int} {f g : Nat → Nat} {n s c q : Nat} (h : Blk K f n s n) (k : Blk K g n (2 * s) c) (e : ∀ k, c ≤ k → g k = f k) (hc : c = q * (2 * s)) (hn : n ≤ c + s) : Blk K g n (2 * s) n := fun i j h1 h2 h3 h4 => by
  have hq : q * (2 * s) = q * 2 * s := by rw [Nat.mul_assoc]
  by_cases hj : j < c
  · exact k i j h1 h2 hj h4
  · have ej : j / (2 * s) = q := divq (by omega) (by omega)
    have hi : c ≤ i := by
      have := Nat.div_mul_le_self i (2 * s)
      rw [h4, ej] at this
      omega
    rw [e i hi, e j (by omega)]
    exact h i j h1 h2 h2 (by rw [divq (q := q * 2) (by omega) (by omega), divq (q := q * 2) (by omega) (by omega)])
end Go.Proofs.YtgdnibdahldekabDoor
