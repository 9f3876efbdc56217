/- The law's own order: reasons put in one by one, each behind all whose place is not greater. -/
import Derived.Test.YtgdnibdahldekabDoorSmO
import Derived.Test.YtgdnibdahldekabDoorLtA
namespace Go.Proofs.YtgdnibdahldekabDoor
open Go.RowKit
set_option linter.unusedVariables false

/-- What is in order so far. -/
def ordL (o : Nat → Di) (f : Nat → Nat) (i : Nat) : List Di := (List.range i).map fun j => o (f j)
theorem ordL_len (o : Nat → Di) (f : Nat → Nat) (i : Nat) : (ordL o f i).length = i := by simp [ordL]
theorem ordL_get (o : Nat → Di) (f : Nat → Nat) {i j : Nat} (h : j < i) : (ordL o f i)[j]? = some (o (f j)) := by simp [ordL, List.getElem?_range h]
theorem ordL_step (o : Nat → Di) (f : Nat → Nat) (i k : Nat) (hk : k ≤ i) (hf : f i = i) : (ordL o f i).take k ++ [o i] ++ (ordL o f i).drop k = ordL o (mvR f k i) (i + 1) := by
  have hl := ordL_len o f i
  apply List.ext_getElem?
  intro j
  by_cases hj : j < i + 1
  · rw [ordL_get o _ hj]
    by_cases h1 : j < k
    · rw [List.append_assoc, List.getElem?_append_left (by rw [List.length_take]; omega), List.getElem?_take_of_lt h1, ordL_get o f (by omega)]
      unfold mvR
      rw [if_neg (by omega), if_neg (by omega)]
    · by_cases h2 : j = k
      · subst h2
        rw [List.append_assoc, List.getElem?_append_right (by rw [List.length_take]; omega), List.length_take, hl, Nat.min_eq_left hk]
        unfold mvR
        rw [if_neg (by omega), if_pos rfl, hf]
        simp
      · rw [List.getElem?_append_right (by rw [List.length_append, List.length_take]; simp; omega), List.length_append, List.length_take, hl, Nat.min_eq_left hk, List.getElem?_drop]
        simp only [List.length_cons, List.length_nil]
        rw [ordL_get o f (by omega)]
        unfold mvR
        rw [if_pos (by omega)]
        congr 3
        omega
  · have e1 : ((ordL o f i).take k ++ [o i] ++ (ordL o f i).drop k).length = i + 1 := by
      rw [List.length_append, List.length_append, List.length_take, List.length_drop, hl]
      simp
      omega
    rw [List.getElem?_eq_none (by rw [e1]; omega), List.getElem?_eq_none (by rw [ordL_len]; omega)]
/-- One more stands in its place. -/
theorem ord_place {K : Nat → Int} {f : Nat → Nat} {i k : Nat} (hs : Srt K f 0 i) (hm : Moves id f 0 i) (hk : k ≤ i) (hlo : ∀ c, c < k → K (f c) ≤ K i) (hhi : ∀ c, k ≤ c → c < i → K i < K (f c)) :
    Srt K (mvR f k i) 0 (i + 1) ∧ Moves id (mvR f k i) 0 (i + 1) := by
  have hfi : f i = i := hm.out i (by omega)
  have h := merge_one_right (K := K) (f := f) (g := mvR f k i) (a := 0) (m := i) (i := k) ⟨hs, fun x y h1 h2 h3 => by omega, fun x y h1 h2 h3 h4 => by
    obtain rfl : y = i := by omega
    rw [hfi]
    obtain ⟨x', e1, e2, e3⟩ := hm.inn x h1 h2
    rw [e3]
    exact e2⟩ (Nat.zero_le _) hk (fun c _ h2 => by rw [hfi]; exact Int.not_lt.2 (hlo c h2)) (fun c h1 h2 => by rw [hfi]; exact hhi c h1 h2) (fun _ => rfl)
  exact ⟨h.1, (hm.mono (Nat.le_refl _) (by omega)).trans h.2⟩
theorem moves_lt {f : Nat → Nat} {n : Nat} (h : Moves id f 0 n) : ∀ i, i < n → f i < n := fun i hi => by
  obtain ⟨k', a1, a2, a3⟩ := h.inn i (Nat.zero_le _) hi
  rw [a3]; exact a2
/-- Both orders are the same. -/
theorem ord_same {o : Nat → Di} {n : Nat} {f g : Nat → Nat} (hf : ∀ i, i < n → f i < n) (hg : ∀ i, i < n → g i < n) (sf : Srt (keyO o) f 0 n) (sg : Srt (keyO o) g 0 n) : ordL o f n = ordL o g n := by
  unfold ordL
  apply List.map_congr_left
  intro j hj
  rw [srt_unique hf hg sf sg j (List.mem_range.1 hj)]
end Go.Proofs.YtgdnibdahldekabDoor
