/- A stable sort by parts that are merged in place: plain laws over places; no program in sight. -/
import Derived.WalkKit
namespace Go.Proofs.YtgdnibdahldekabDoor
set_option linter.unusedVariables false

/-- The word of order: by key, and at like keys by number. -/
def LK (K : Nat → Int) (p q : Nat) : Prop := K p < K q ∨ (K p = K q ∧ p < q)
theorem LK.trans {K : Nat → Int} {p q r : Nat} (h : LK K p q) (k : LK K q r) : LK K p r := by unfold LK at *; omega
theorem LK.irrefl {K : Nat → Int} {p : Nat} (h : LK K p p) : False := by unfold LK at h; omega
theorem LK.le {K : Nat → Int} {p q : Nat} (h : LK K p q) : K p ≤ K q := by unfold LK at h; omega
theorem LK.ne {K : Nat → Int} {p q : Nat} (h : LK K p q) : p ≠ q := fun e => by subst e; exact h.irrefl

/-- Two places are changed. -/
def swp (f : Nat → Nat) (i j : Nat) : Nat → Nat := fun k => if k = i then f j else if k = j then f i else f k
/-- Two ranges of n places are changed. -/
def swR (f : Nat → Nat) (a b n : Nat) : Nat → Nat := fun k => if a ≤ k ∧ k < a + n then f (b + (k - a)) else if b ≤ k ∧ k < b + n then f (a + (k - b)) else f k
/-- Two neighbours among ranges are changed. -/
def rotR (f : Nat → Nat) (a m b : Nat) : Nat → Nat := fun k => if a ≤ k ∧ k < a + (b - m) then f (k + (m - a)) else if a + (b - m) ≤ k ∧ k < b then f (k - (b - m)) else f k
theorem swR_zero (f : Nat → Nat) (a b : Nat) : swR f a b 0 = f := by
  funext k
  unfold swR
  rw [if_neg (by omega), if_neg (by omega)]
theorem swR_succ (f : Nat → Nat) (a b n : Nat) (h : a + n < b) : swp (swR f a b n) (a + n) (b + n) = swR f a b (n + 1) := by
  funext k
  unfold swp swR
  by_cases h1 : k = a + n
  · subst h1
    rw [if_pos rfl, if_neg (by omega), if_neg (by omega), if_pos (by omega)]
    congr 1; omega
  · rw [if_neg h1]
    by_cases h2 : k = b + n
    · subst h2
      rw [if_pos rfl, if_neg (by omega), if_neg (by omega), if_neg (by omega), if_pos (by omega)]
      congr 1; omega
    · rw [if_neg h2]
      by_cases h3 : a ≤ k ∧ k < a + n
      · rw [if_pos h3, if_pos (by omega)]
      · rw [if_neg h3, if_neg (show ¬ (a ≤ k ∧ k < a + (n + 1)) by omega)]
        by_cases h4 : b ≤ k ∧ k < b + n
        · rw [if_pos h4, if_pos (by omega)]
        · rw [if_neg h4, if_neg (by omega)]
theorem rot_end (f : Nat → Nat) (m i : Nat) (hi : i ≤ m) : rotR f (m - i) m (m + i) = swR f (m - i) m i := by
  funext k
  unfold rotR swR
  by_cases h1 : m - i ≤ k ∧ k < m - i + i
  · rw [if_pos (by omega), if_pos h1]
    congr 1; omega
  · rw [if_neg (by omega), if_neg h1]
    by_cases h2 : m ≤ k ∧ k < m + i
    · rw [if_pos (by omega), if_pos h2]
      congr 1; omega
    · rw [if_neg (by omega), if_neg h2]
theorem rot_left (f : Nat → Nat) (m i j : Nat) (hi : i ≤ m) (hj : j < i) : rotR (swR f (m - i) m j) (m - (i - j)) m (m + j) = rotR f (m - i) m (m + j) := by
  funext k
  unfold rotR swR
  by_cases h1 : m - i ≤ k ∧ k < m - i + j
  · rw [if_neg (by omega), if_neg (by omega), if_pos h1, if_pos (by omega)]
    congr 1; omega
  · by_cases h2 : m - i + j ≤ k ∧ k < m + j
    · rw [if_neg (show ¬ (m - i ≤ k ∧ k < m - i + (m + j - m)) by omega), if_pos (show m - i + (m + j - m) ≤ k ∧ k < m + j by omega)]
      by_cases h3 : k < m - (i - j) + j
      · rw [if_pos (by omega)]
        rw [if_neg (by omega), if_pos (by omega)]
        congr 1; omega
      · rw [if_neg (by omega), if_pos (by omega), if_neg (by omega), if_neg (by omega)]
        try (congr 1; omega)
    · rw [if_neg (by omega), if_neg (by omega), if_neg (by omega), if_neg (by omega), if_neg (by omega), if_neg (by omega)]
theorem rot_right (f : Nat → Nat) (m i j : Nat) (hi : i ≤ m) (hj : i < j) : rotR (swR f (m - i) (m + j - i) i) (m - i) m (m + (j - i)) = rotR f (m - i) m (m + j) := by
  funext k
  unfold rotR swR
  by_cases h1 : m - i ≤ k ∧ k < m - i + (j - i)
  · rw [if_pos (by omega), if_pos (show m - i ≤ k ∧ k < m - i + (m + j - m) by omega)]
    by_cases h2 : m - i ≤ k + (m - (m - i)) ∧ k + (m - (m - i)) < m - i + i
    · omega
    · rw [if_neg h2]
      by_cases h3 : m + j - i ≤ k + (m - (m - i)) ∧ k + (m - (m - i)) < m + j - i + i
      · omega
      · rw [if_neg h3]
  · by_cases h2 : m - i + (j - i) ≤ k ∧ k < m + (j - i)
    · rw [if_neg (by omega), if_pos (by omega), if_pos (by omega)]
      by_cases h3 : k < m - i + j
      · rw [if_pos (show m - i ≤ k ∧ k < m - i + (m + j - m) by omega)]
        congr 1; omega
      · omega
    · by_cases h3 : m + (j - i) ≤ k ∧ k < m + j
      · rw [if_neg (by omega), if_neg (by omega), if_neg (by omega), if_pos (by omega), if_neg (by omega), if_pos (by omega)]
        congr 1; omega
      · rw [if_neg (by omega), if_neg (by omega), if_neg (by omega), if_neg (by omega), if_neg (by omega), if_neg (by omega)]
theorem rot_start (f : Nat → Nat) (a m b : Nat) (h1 : a ≤ m) (h2 : m ≤ b) : rotR f (m - (m - a)) m (m + (b - m)) = rotR f a m b := by
  rw [show m - (m - a) = a by omega, show m + (b - m) = b by omega]

/-- What stands in [a, b) behind stood there before; elsewhere nothing has turned. -/
structure Moves (f g : Nat → Nat) (a b : Nat) : Prop where
  out : ∀ k, k < a ∨ b ≤ k → g k = f k
  inn : ∀ k, a ≤ k → k < b → ∃ k', a ≤ k' ∧ k' < b ∧ g k = f k'
theorem Moves.refl (f : Nat → Nat) (a b : Nat) : Moves f f a b := ⟨fun _ _ => rfl, fun k h1 h2 => ⟨k, h1, h2, rfl⟩⟩
theorem Moves.trans {f g h : Nat → Nat} {a b : Nat} (m : Moves f g a b) (n : Moves g h a b) : Moves f h a b :=
  ⟨fun k hk => (n.out k hk).trans (m.out k hk), fun k h1 h2 => by
    obtain ⟨k', h3, h4, h5⟩ := n.inn k h1 h2
    obtain ⟨k'', h6, h7, h8⟩ := m.inn k' h3 h4
    exact ⟨k'', h6, h7, h5.trans h8⟩⟩
theorem Moves.mono {f g : Nat → Nat} {a b a' b' : Nat} (m : Moves f g a b) (ha : a' ≤ a) (hb : b ≤ b') : Moves f g a' b' :=
  ⟨fun k hk => m.out k (by omega), fun k h1 h2 => by
    by_cases h : a ≤ k ∧ k < b
    · obtain ⟨k', h3, h4, h5⟩ := m.inn k h.1 h.2
      exact ⟨k', by omega, by omega, h5⟩
    · exact ⟨k, h1, h2, m.out k (by omega)⟩⟩
theorem swp_moves (f : Nat → Nat) {i j a b : Nat} (h1 : a ≤ i) (h2 : i < b) (h3 : a ≤ j) (h4 : j < b) : Moves f (swp f i j) a b :=
  ⟨fun k hk => by unfold swp; rw [if_neg (by omega), if_neg (by omega)], fun k k1 k2 => by
    unfold swp
    by_cases e1 : k = i
    · exact ⟨j, h3, h4, by rw [if_pos e1]⟩
    · by_cases e2 : k = j
      · exact ⟨i, h1, h2, by rw [if_neg e1, if_pos e2]⟩
      · exact ⟨k, k1, k2, by rw [if_neg e1, if_neg e2]⟩⟩
theorem rotR_moves (f : Nat → Nat) {a m b : Nat} (h1 : a ≤ m) (h2 : m ≤ b) : Moves f (rotR f a m b) a b :=
  ⟨fun k hk => by unfold rotR; rw [if_neg (by omega), if_neg (by omega)], fun k k1 k2 => by
    unfold rotR
    by_cases e1 : a ≤ k ∧ k < a + (b - m)
    · exact ⟨k + (m - a), by omega, by omega, by rw [if_pos e1]⟩
    · exact ⟨k - (b - m), by omega, by omega, by rw [if_neg e1, if_pos (by omega)]⟩⟩
/-- In order. -/
def Srt (K : Nat → Int) (f : Nat → Nat) (a b : Nat) : Prop := ∀ i j, a ≤ i → i < j → j < b → LK K (f i) (f j)
/-- One way of merging: what came in, and what comes out. -/
structure Mrg (K : Nat → Int) (f : Nat → Nat) (a m b : Nat) : Prop where
  left : Srt K f a m
  right : Srt K f m b
  tags : ∀ i j, a ≤ i → i < m → m ≤ j → j < b → f i < f j
theorem Srt.sub {K : Nat → Int} {f : Nat → Nat} {a b a' b' : Nat} (h : Srt K f a b) (ha : a ≤ a') (hb : b' ≤ b) : Srt K f a' b' := fun i j h1 h2 h3 => h i j (by omega) h2 (by omega)
theorem Srt.congr {K : Nat → Int} {f g : Nat → Nat} {a b : Nat} (h : Srt K f a b) (hg : ∀ k, a ≤ k → k < b → g k = f k) : Srt K g a b := fun i j h1 h2 h3 => by
  rw [hg i h1 (by omega), hg j (by omega) h3]; exact h i j h1 h2 h3
/-- What lies on either side of mid is in order to the other side, and each side is in order: all is. -/
theorem srt_join {K : Nat → Int} {f : Nat → Nat} {a m b : Nat} (h1 : Srt K f a m) (h2 : Srt K f m b) (h3 : ∀ i j, a ≤ i → i < m → m ≤ j → j < b → LK K (f i) (f j)) : Srt K f a b := fun i j k1 k2 k3 => by
  by_cases hi : i < m
  · by_cases hj : j < m
    · exact h1 i j k1 k2 hj
    · exact h3 i j k1 hi (by omega) k3
  · exact h2 i j (by omega) k2 k3
/-- Sides that were in order to each other stay so, if each is moved within itself. -/
theorem across {K : Nat → Int} {f g : Nat → Nat} {a m b : Nat} (hl : ∀ k, a ≤ k → k < m → ∃ k', a ≤ k' ∧ k' < m ∧ g k = f k') (hr : ∀ k, m ≤ k → k < b → ∃ k', m ≤ k' ∧ k' < b ∧ g k = f k')
    (h : ∀ i j, a ≤ i → i < m → m ≤ j → j < b → LK K (f i) (f j)) : ∀ i j, a ≤ i → i < m → m ≤ j → j < b → LK K (g i) (g j) := fun i j h1 h2 h3 h4 => by
  obtain ⟨i', a1, a2, a3⟩ := hl i h1 h2
  obtain ⟨j', b1, b2, b3⟩ := hr j h3 h4
  rw [a3, b3]; exact h i' j' a1 a2 b1 b2

/-- One on the left: it goes behind all on the right whose key is lower. -/
theorem merge_one_left {K : Nat → Int} {f g : Nat → Nat} {a b i : Nat} (h : Mrg K f a (a + 1) b) (h1 : a + 1 ≤ i) (h2 : i ≤ b) (hlo : ∀ k, a + 1 ≤ k → k < i → K (f k) < K (f a)) (hhi : ∀ k, i ≤ k → k < b → ¬ K (f k) < K (f a))
    (hg : ∀ k, g k = if a ≤ k ∧ k < i - 1 then f (k + 1) else if k = i - 1 then f a else f k) : Srt K g a b ∧ Moves f g a b := by
  refine ⟨fun x y k1 k2 k3 => ?_, ⟨fun k hk => ?_, fun k k1 k2 => ?_⟩⟩
  · rw [hg x, hg y]
    by_cases hx : a ≤ x ∧ x < i - 1
    · rw [if_pos hx]
      by_cases hy : a ≤ y ∧ y < i - 1
      · rw [if_pos hy]; exact h.right _ _ (by omega) (by omega) (by omega)
      · rw [if_neg hy]
        by_cases hy2 : y = i - 1
        · rw [if_pos hy2]; exact .inl (hlo _ (by omega) (by omega))
        · rw [if_neg hy2]; exact h.right _ _ (by omega) (by omega) (by omega)
    · rw [if_neg hx, if_neg (show ¬ (a ≤ y ∧ y < i - 1) by omega)]
      by_cases hx2 : x = i - 1
      · rw [if_pos hx2, if_neg (by omega)]
        have := hhi y (by omega) k3
        have t := h.tags a y (Nat.le_refl _) (by omega) (by omega) k3
        unfold LK; omega
      · rw [if_neg hx2, if_neg (by omega)]
        exact h.right _ _ (by omega) k2 k3
  · rw [hg k, if_neg (by omega), if_neg (by omega)]
  · by_cases hx : a ≤ k ∧ k < i - 1
    · exact ⟨k + 1, by omega, by omega, by rw [hg k, if_pos hx]⟩
    · by_cases hx2 : k = i - 1
      · exact ⟨a, by omega, by omega, by rw [hg k, if_neg hx, if_pos hx2]⟩
      · exact ⟨k, k1, k2, by rw [hg k, if_neg hx, if_neg hx2]⟩
/-- One on the right: it goes ahead of all on the left whose key is greater. -/
theorem merge_one_right {K : Nat → Int} {f g : Nat → Nat} {a m i : Nat} (h : Mrg K f a m (m + 1)) (h1 : a ≤ i) (h2 : i ≤ m) (hlo : ∀ k, a ≤ k → k < i → ¬ K (f m) < K (f k)) (hhi : ∀ k, i ≤ k → k < m → K (f m) < K (f k))
    (hg : ∀ k, g k = if i < k ∧ k ≤ m then f (k - 1) else if k = i then f m else f k) : Srt K g a (m + 1) ∧ Moves f g a (m + 1) := by
  refine ⟨fun x y k1 k2 k3 => ?_, ⟨fun k hk => ?_, fun k k1 k2 => ?_⟩⟩
  · rw [hg x, hg y]
    by_cases hx : i < x ∧ x ≤ m
    · rw [if_pos hx, if_pos (show i < y ∧ y ≤ m by omega)]
      exact h.left _ _ (by omega) (by omega) (by omega)
    · rw [if_neg hx]
      by_cases hx2 : x = i
      · rw [if_pos hx2, if_pos (by omega)]
        exact .inl (hhi _ (by omega) (by omega))
      · rw [if_neg hx2]
        by_cases hy : i < y ∧ y ≤ m
        · rw [if_pos hy]; exact h.left _ _ (by omega) (by omega) (by omega)
        · rw [if_neg hy]
          by_cases hy2 : y = i
          · rw [if_pos hy2]
            have := hlo x k1 (by omega)
            have t := h.tags x m k1 (by omega) (Nat.le_refl _) (by omega)
            unfold LK; omega
          · rw [if_neg hy2]; exact h.left _ _ k1 k2 (by omega)
  · rw [hg k, if_neg (by omega), if_neg (by omega)]
  · by_cases hx : i < k ∧ k ≤ m
    · exact ⟨k - 1, by omega, by omega, by rw [hg k, if_pos hx]⟩
    · by_cases hx2 : k = i
      · exact ⟨m, by omega, by omega, by rw [hg k, if_neg hx, if_pos hx2]⟩
      · exact ⟨k, k1, k2, by rw [hg k, if_neg hx, if_neg hx2]⟩

/-- Behind the turn in the middle: either side is to be merged by itself, and all on the one side goes ahead of all on the other. -/
theorem merge_mid {K : Nat → Int} {f : Nat → Nat} {a m b mid s : Nat} (h : Mrg K f a m b) (ham : a < m) (hmb : m < b) (hmid : mid = (a + b) / 2) (hs0 : (if mid < m then mid + m - b else a) ≤ s) (hs1 : s ≤ (if mid < m then mid else m))
    (hlo : ∀ c, (if mid < m then mid + m - b else a) ≤ c → c < s → ¬ K (f (mid + m - 1 - c)) < K (f c)) (hhi : ∀ c, s ≤ c → c < (if mid < m then mid else m) → K (f (mid + m - 1 - c)) < K (f c)) :
    a ≤ s ∧ s ≤ m ∧ s ≤ mid ∧ m ≤ mid + m - s ∧ mid ≤ mid + m - s ∧ mid + m - s ≤ b ∧ Mrg K (rotR f s m (mid + m - s)) a s mid ∧ Mrg K (rotR f s m (mid + m - s)) mid (mid + m - s) b ∧
      (∀ i j, a ≤ i → i < mid → mid ≤ j → j < b → LK K (rotR f s m (mid + m - s) i) (rotR f s m (mid + m - s) j)) := by
  have e1 : a ≤ s ∧ s ≤ m ∧ s ≤ mid ∧ mid + m - s ≤ b := by split at hs0 <;> split at hs1 <;> omega
  obtain ⟨e1, e2, e3, e4⟩ := e1
  have gl : ∀ k, k < s → rotR f s m (mid + m - s) k = f k := fun k hk => by unfold rotR; rw [if_neg (by omega), if_neg (by omega)]
  have gm : ∀ k, s ≤ k → k < mid → rotR f s m (mid + m - s) k = f (k + (m - s)) := fun k h1 h2 => by unfold rotR; rw [if_pos (by omega)]
  have gn : ∀ k, mid ≤ k → k < mid + m - s → rotR f s m (mid + m - s) k = f (k - (mid - s)) := fun k h1 h2 => by
    unfold rotR; rw [if_neg (by omega), if_pos (by omega)]; congr 1; omega
  have gr : ∀ k, mid + m - s ≤ k → rotR f s m (mid + m - s) k = f k := fun k hk => by unfold rotR; rw [if_neg (by omega), if_neg (by omega)]
  refine ⟨e1, e2, e3, by omega, by omega, e4, ⟨?_, ?_, ?_⟩, ⟨?_, ?_, ?_⟩, ?_⟩
  · exact (h.left.sub (Nat.le_refl _) e2).congr fun k h1 h2 => gl k h2
  · intro i j h1 h2 h3
    rw [gm i h1 (by omega), gm j (by omega) h3]
    exact h.right _ _ (by omega) (by omega) (by omega)
  · intro i j h1 h2 h3 h4
    rw [gl i h2, gm j h3 h4]
    exact h.tags _ _ (by omega) (by omega) (by omega) (by omega)
  · intro i j h1 h2 h3
    rw [gn i h1 (by omega), gn j (by omega) h3]
    exact h.left _ _ (by omega) (by omega) (by omega)
  · exact (h.right.sub (by omega) (Nat.le_refl _)).congr fun k h1 h2 => gr k h1
  · intro i j h1 h2 h3 h4
    rw [gn i h1 h2, gr j h3]
    exact h.tags _ _ (by omega) (by omega) (by omega) (by omega)
  · intro i j h1 h2 h3 h4
    by_cases hi : i < s
    · rw [gl i hi]
      by_cases hj : j < mid + m - s
      · rw [gn j h3 hj]
        exact h.left _ _ (by omega) (by omega) (by omega)
      · rw [gr j (by omega)]
        have hp : K (f i) ≤ K (f j) := by
          have a1 := hlo (s - 1) (by split <;> split at hs0 <;> omega) (by omega)
          have a2 : K (f i) ≤ K (f (s - 1)) := by
            by_cases e : i = s - 1
            · rw [e]; exact Int.le_refl _
            · exact (h.left i (s - 1) h1 (by omega) (by omega)).le
          have a3 : K (f (mid + m - 1 - (s - 1))) ≤ K (f j) := by
            by_cases e : mid + m - 1 - (s - 1) = j
            · rw [e]; exact Int.le_refl _
            · exact (h.right (mid + m - 1 - (s - 1)) j (by omega) (by omega) h4).le
          omega
        have ht := h.tags i j h1 (by omega) (by omega) h4
        unfold LK; omega
    · rw [gm i (by omega) h2]
      by_cases hj : j < mid + m - s
      · rw [gn j h3 hj]
        left
        have a1 := hhi s (Nat.le_refl _) (by split <;> split at hs1 <;> omega)
        have a2 : K (f (i + (m - s))) ≤ K (f (mid + m - 1 - s)) := by
          by_cases e : i + (m - s) = mid + m - 1 - s
          · rw [e]; exact Int.le_refl _
          · exact (h.right _ _ (by omega) (by omega) (by omega)).le
        have a3 : K (f s) ≤ K (f (j - (mid - s))) := by
          by_cases e : s = j - (mid - s)
          · rw [← e]; exact Int.le_refl _
          · exact (h.left _ _ (by omega) (by omega) (by omega)).le
        omega
      · rw [gr j (by omega)]
        exact h.right _ _ (by omega) (by omega) h4
theorem rotR_none_left (f : Nat → Nat) (m e : Nat) : rotR f m m e = f := by
  funext k; unfold rotR
  by_cases h : m ≤ k ∧ k < m + (e - m)
  · rw [if_pos h]; congr 1; omega
  · rw [if_neg h, if_neg (by omega)]
theorem rotR_none_right (f : Nat → Nat) (s m : Nat) : rotR f s m m = f := by
  funext k; unfold rotR
  rw [if_neg (by omega)]
  by_cases h : s + (m - m) ≤ k ∧ k < m
  · rw [if_pos h]; congr 1; omega
  · rw [if_neg h]

/-- Pigeonhole. -/
theorem pigeon : ∀ (n : Nat) (f : Nat → Nat), (∀ i, i < n → f i < n) → (∀ i j, i < n → j < n → f i = f j → i = j) → ∀ v, v < n → ∃ i, i < n ∧ f i = v
  | 0, _, _, _, v, hv => by omega
  | n + 1, f, h1, h2, v, hv => by
    by_cases hn : f n = v
    · exact ⟨n, by omega, hn⟩
    · obtain ⟨i, hi, he⟩ := pigeon n (fun i => if f i = n then f n else f i) (fun i hi => by
          have a := h1 i (by omega)
          have b := h1 n (by omega)
          have c : f i ≠ f n := fun e => by have := h2 i n (by omega) (by omega) e; omega
          show (if f i = n then f n else f i) < n
          split <;> omega)
        (fun i j hi hj e => by
          have a : f i ≠ f n := fun e => by have := h2 i n (by omega) (by omega) e; omega
          have b : f j ≠ f n := fun e => by have := h2 j n (by omega) (by omega) e; omega
          have e' : (if f i = n then f n else f i) = (if f j = n then f n else f j) := e
          apply h2 i j (by omega) (by omega)
          split at e' <;> split at e' <;> omega)
        (if v = n then f n else v) (by
          have b := h1 n (by omega)
          split <;> omega)
      refine ⟨i, by omega, ?_⟩
      have he' : (if f i = n then f n else f i) = (if v = n then f n else v) := he
      have a : f i ≠ f n := fun e => by have := h2 i n (by omega) (by omega) e; omega
      split at he' <;> split at he' <;> omega
/-- There is just one way to stand in order. -/
theorem srt_unique {K : Nat → Int} {n : Nat} {f g : Nat → Nat} (hf : ∀ i, i < n → f i < n) (hg : ∀ i, i < n → g i < n) (sf : Srt K f 0 n) (sg : Srt K g 0 n) : ∀ i, i < n → f i = g i := by
  have inj : ∀ {h : Nat → Nat}, Srt K h 0 n → ∀ i j, i < n → j < n → h i = h j → i = j := fun {h} sh i j hi hj e => by
    rcases Nat.lt_trichotomy i j with hlt | heq | hgt
    · exact absurd e (sh i j (by omega) hlt hj).ne
    · exact heq
    · exact absurd e.symm (sh j i (by omega) hgt hi).ne
  intro i
  induction i using Nat.strongRecOn with
  | ind i ih =>
    intro hi
    obtain ⟨p, hp, ep⟩ := pigeon n f hf (inj sf) (g i) (hg i hi)
    obtain ⟨q, hq, eq⟩ := pigeon n g hg (inj sg) (f i) (hf i hi)
    have hpi : i ≤ p := by
      apply Decidable.byContradiction
      intro hn
      have h1 := ih p (by omega) hp
      have := inj sg p i hp hi (by rw [← h1, ep])
      omega
    have hqi : i ≤ q := by
      apply Decidable.byContradiction
      intro hn
      have h1 := ih q (by omega) hq
      have := inj sf q i hq hi (by rw [h1, eq])
      omega
    by_cases e1 : p = i
    · rw [← ep, e1]
    · by_cases e2 : q = i
      · rw [← eq, e2]
      · have a1 := sf i p (by omega) (by omega) hp
        have a2 := sg i q (by omega) (by omega) hq
        rw [ep] at a1
        rw [eq] at a2
        exact absurd (a1.trans a2) (fun h => h.irrefl)
end Go.Proofs.YtgdnibdahldekabDoor
