/- Words on fields and their cells. -/
import Derived.Test.YtgdnibdahldekabPfF
namespace Go.Proofs.Ytgdnibdahldekab
open Go.RowKit Go.Shelf
set_option linter.unusedVariables false

/-- What Fields tells of a text put behind another. -/
theorem fields_behind {a b : List UInt8} (ha : a.length ≤ 1000) (hb : b.length ≤ 1000) (h : (fieldsD a).code = 0) :
    ((fieldsD b).code ≠ 0 → fieldsF (a ++ b) = [] ∧ (fieldsD (a ++ b)).code = (fieldsD b).code ∧ (fieldsD (a ++ b)).at_ = (fieldsD b).at_ + a.length) ∧
    ((fieldsD b).code = 0 → (fieldsD (a ++ b)).code = 0 ∧ fieldsF (a ++ b) = fieldsF a ++ (fieldsF b).map (shiftF a.length)) := by
  unfold fieldsD fieldsF at *
  rw [if_neg (by omega)] at h
  simp only [List.length_append]
  rw [if_neg (by omega), if_neg (by omega), if_neg (by omega), if_neg (by omega), if_neg (by omega)]
  cases hA : (fieldsGo 0 a).2 with
  | some k => rw [hA] at h; simp [wireD] at h
  | none =>
    rw [fieldsGo_append _ 0 a b (Nat.le_refl _) hA, show (0 : Nat) + a.length = 0 + a.length from rfl, fieldsGo_shift _ 0 a.length b (Nat.le_refl _)]
    cases hB : (fieldsGo 0 b).2 with
    | none => simp [zeroD]
    | some k => simp [wireD]
theorem fieldsF_len (l : List UInt8) (h : l.length ≤ 1000) : (fieldsF l).length ≤ 1000 := by
  unfold fieldsF
  rw [if_neg (by omega)]
  split
  · exact Nat.le_trans (fieldsGo_len _ 0 l (Nat.le_refl _)) h
  · simp
theorem flat5 : ∀ (fs : List Fld) (i j : Nat), j < 5 → (fs.flatMap fldCells)[i * 5 + j]? = (fs[i]?).bind fun f => (fldCells f)[j]?
  | [], i, j, h => by simp
  | f :: fs, 0, j, h => by
    rw [List.flatMap_cons, List.getElem?_append_left (by simpa using h)]
    simp
  | f :: fs, i + 1, j, h => by
    rw [List.flatMap_cons, List.getElem?_append_right (by simp; omega)]
    have : (i + 1) * 5 + j - (fldCells f).length = i * 5 + j := by simp; omega
    rw [this, flat5 fs i j h]
    simp
theorem ownsRow_below {W W' : World} {base : Nat} {e : TypeId} {size : Nat} {v : Value} {n : Nat} {xs : List Value} (h : W.ownsRow base e size v n xs) (hB : Below W.heap.size W W') : W'.ownsRow base e size v n xs := by
  refine ⟨h.1, ?_⟩
  rcases h.2 with h' | ⟨g, cap, cur, hv, hb, hg, hr⟩
  · exact .inl h'
  · exact .inr ⟨g, cap, cur, hv, hb, by rw [hB.block g (Array.getElem?_eq_some_iff.1 hg).1]; exact hg, hr⟩
theorem below_next {n : Nat} {w w1 w2 : World} (o : Obj) (h : Below n w w1 ∧ n ≤ w1.heap.size) (hB : Below w1.heap.size w1 w2) : Below n w (w2.alloc o) ∧ n ≤ (w2.alloc o).heap.size := by
  have h1 := hB.size
  exact ⟨(h.1.trans (hB.mono h.2)).alloc (by omega) _, by simp; omega⟩
theorem ownsRow_len {w : World} {base : Nat} {e : TypeId} {size : Nat} {v : Value} {n : Nat} {xs : List Value} (h : w.ownsRow base e size v n xs) : ∃ b c, v = .slice b n c := by
  rcases h.2 with ⟨rfl, h0⟩ | ⟨g, cap, cur, rfl, _⟩
  · exact ⟨none, 0, by rw [h0]⟩
  · exact ⟨_, _, rfl⟩
/-- A row of fields, cell by cell. -/
theorem fld_cell {w : World} {base : Nat} {v : Value} {fs : List Fld} (h : w.ownsRow base 39 5 v fs.length (fs.flatMap fldCells)) {i : Nat} (hi : i < fs.length) :
    ∃ g cap, v = .slice (some ⟨g, 0, none⟩) fs.length cap ∧ g < w.heap.size ∧ ∀ j, j < 5 → w.cell? ⟨g, i * 5 + j, none⟩ = (fldCells (fs.getD i zeroF))[j]? := by
  rcases h.2 with ⟨rfl, h0⟩ | ⟨g, cap, cur, rfl, hb, hg, h1, h2, h3, h4⟩
  · omega
  · refine ⟨g, cap, rfl, (Array.getElem?_eq_some_iff.1 hg).1, fun j hj => ?_⟩
    rw [cell_of_row w g _ cur _ _ hg]
    have h5 := flat5 fs i j hj
    have : (cur.toList.take (fs.length * 5))[i * 5 + j]? = cur[i * 5 + j]? := by
      rw [List.getElem?_take_of_lt (by omega)]; simp
    rw [← this, h4, h5]
    simp [List.getD, List.getElem?_eq_getElem hi]
theorem fieldsGo_at : ∀ (m k : Nat) (l : List UInt8), l.length ≤ m → (∀ f ∈ (fieldsGo k l).1, f.at_ ≤ k + l.length) ∧ (∀ j, (fieldsGo k l).2 = some j → j ≤ k + l.length)
  | 0, k, l, h => by
    obtain rfl : l = [] := List.eq_nil_of_length_eq_zero (by omega)
    rw [fieldsGo_nil]; simp
  | m + 1, k, l, h => by
    by_cases hl : l = []
    · subst hl; rw [fieldsGo_nil]; simp
    cases ho : oneL l with
    | none => rw [fieldsGo_none hl ho]; simp
    | some p =>
      obtain ⟨f, n⟩ := p
      have hb := oneL_bd ho
      have ih := fieldsGo_at m (k + n) (l.drop n) (by simp; omega)
      have hk : k + n + (l.drop n).length = k + l.length := by simp; omega
      rw [fieldsGo_some ho]
      rw [hk] at ih
      refine ⟨fun g hg => ?_, ih.2⟩
      rw [List.mem_cons] at hg
      rcases hg with rfl | hg
      · simp
      · exact ih.1 g hg
theorem fieldsF_at (l : List UInt8) (h : l.length ≤ 1000) (i : Nat) : ((fieldsF l).getD i zeroF).at_ ≤ 1000 := by
  by_cases hi : i < (fieldsF l).length
  · rw [List.getD, List.getElem?_eq_getElem hi]
    simp only [Option.getD_some]
    have hm : (fieldsF l)[i] ∈ fieldsF l := List.getElem_mem hi
    have : ∀ f ∈ fieldsF l, f.at_ ≤ 1000 := by
      unfold fieldsF
      rw [if_neg (by omega)]
      split
      · intro f hf; have := (fieldsGo_at _ 0 l (Nat.le_refl _)).1 f hf; omega
      · simp
    exact this _ hm
  · rw [List.getD, List.getElem?_eq_none (by omega)]; simp [zeroF]
theorem fieldsD_at (l : List UInt8) (h : l.length ≤ 1000) : (fieldsD l).at_ ≤ 1000 ∧ (fieldsD l).code ≤ 10 := by
  unfold fieldsD
  rw [if_neg (by omega)]
  cases hk : (fieldsGo 0 l).2 with
  | none => simp [zeroD]
  | some k => have := (fieldsGo_at _ 0 l (Nat.le_refl _)).2 k hk; simp [wireD]; omega

end Go.Proofs.Ytgdnibdahldekab
