/- Bounds for the cutter's plain words; no program in sight. -/
import Derived.Test.YtmhhkekokfpppaaDoorXkA
import Derived.Lib.IndexLaws
import Derived.Lib.IndexMore
import Derived.Lib.Bytes2
namespace Go.Proofs.YtmhhkekokfpppaaDoor
open Go.RowKit
set_option linter.unusedVariables false

theorem indexByte_bd (l : List UInt8) (c : UInt8) : Lib.indexByte l c = -1 ∨ ∃ k : Nat, Lib.indexByte l c = (k : Int) ∧ k < l.length ∧ l[k]? = some c := by
  by_cases h : Lib.indexByte l c = -1
  · exact .inl h
  · have h1 := Lib.indexByte_ge l c
    obtain ⟨k, hk⟩ : ∃ k : Nat, Lib.indexByte l c = (k : Int) := ⟨(Lib.indexByte l c).toNat, by omega⟩
    have h2 := (Lib.indexByte_some hk).1
    exact .inr ⟨k, hk, (List.getElem?_eq_some_iff.1 h2).1, h2⟩
theorem indexAny_bd (cs : List UInt8) : ∀ l : List UInt8, Lib.indexAny l cs = -1 ∨ ∃ k : Nat, Lib.indexAny l cs = (k : Int) ∧ k < l.length ∧ ∃ c, l[k]? = some c ∧ cs.contains c = true
  | [] => .inl rfl
  | b :: l => by
    rw [Lib.indexAny]
    by_cases h : cs.contains b = true
    · rw [if_pos h]; exact .inr ⟨0, rfl, by simp, b, rfl, h⟩
    · rw [if_neg h]
      rcases indexAny_bd cs l with h1 | ⟨k, h1, h2, c, h3, h4⟩
      · rw [h1]; exact .inl rfl
      · have : ¬ ((Lib.indexAny l cs == -1) = true) := fun e => by have := beq_iff_eq.1 e; omega
        rw [if_neg this, h1]
        exact .inr ⟨k + 1, rfl, by simpa using h2, c, by simpa using h3, h4⟩
theorem runesAt_mem : ∀ (l : List UInt8) (j k : Nat) (p : Nat × Nat), l.length ≤ j → p ∈ runesAt k (runesL l) → k ≤ p.1 ∧ p.1 < k + l.length
  | l, 0, k, p, hj, h => by
    obtain rfl : l = [] := by cases l; rfl; simp at hj
    rw [runesL_none nextL_nil] at h; cases h
  | l, j + 1, k, p, hj, h => by
    cases hn : nextL l with
    | none => rw [runesL_none hn] at h; cases h
    | some q =>
      obtain ⟨r, n⟩ := q
      have hb := nextL_bd hn
      rw [runesL_some hn] at h
      simp only [runesAt, List.mem_cons] at h
      rcases h with rfl | h
      · exact ⟨Nat.le_refl _, by simp; omega⟩
      · have := runesAt_mem (l.drop n) j (k + n) p (by simp; omega) h
        simp at this
        omega
theorem allRunes_mem {l : List UInt8} {p : Nat × Nat} (h : p ∈ allRunes l) : p.1 < l.length := by
  have := runesAt_mem l _ 0 p (Nat.le_refl _) h
  omega
theorem nameX_le (l : List UInt8) : nameX l ≤ l.length := by
  unfold nameX
  split
  · rename_i p h
    have := allRunes_mem (List.mem_of_find?_eq_some h)
    omega
  · exact Nat.le_refl _
theorem trimLeftS_len (cs : List UInt8) (l : List UInt8) : (Lib.trimLeftS l cs).length ≤ l.length := by
  unfold Lib.trimLeftS
  exact (List.dropWhile_sublist _).length_le
theorem blanksX_le (l : List UInt8) : blanksX l ≤ l.length := by unfold blanksX; omega
theorem replaceK_len (old new : List UInt8) (h : new.length ≤ old.length) : ∀ (k : Nat) (l : List UInt8), (Lib.replaceK old new k l).length ≤ l.length
  | 0, l => Nat.le_refl _
  | k + 1, l => by
    rcases Lib.index_spec l old with ⟨h1, _⟩ | ⟨i, h1, _⟩
    · rw [Lib.replaceK, if_pos (by rw [h1]; rfl)]; exact Nat.le_refl _
    · have hr := Lib.index_room l old (by omega)
      have ih := replaceK_len old new h k (l.drop (i + old.length))
      rw [Lib.replaceK_hit old new k l i h1]
      simp at ih ⊢
      omega
theorem linesX_len (l : List UInt8) : (linesX l).length ≤ l.length := by
  have a : ∀ (o n x : List UInt8), n.length ≤ o.length → (Lib.replaceAll x o n).length ≤ x.length := by
    intro o n x h
    unfold Lib.replaceAll Lib.replace
    split
    · exact Nat.le_refl _
    · exact replaceK_len o n h _ x
  unfold linesX
  exact Nat.le_trans (a _ _ _ (by simp)) (a _ _ _ (by simp))
theorem putR_len (r : Nat) : (putR r).length ≤ 4 := by
  unfold putR; split
  · simp
  · split
    · simp
    · split <;> simp
theorem charX_len {l : List UInt8} {b m : Nat} {t : List UInt8} (h : charX l b m = some t) : t.length ≤ 4 := by
  unfold charX at h
  split at h
  · cases h
  · cases hn : numX b l 0 with
    | none => rw [hn] at h; cases h
    | some r =>
      rw [hn] at h
      simp only [Option.bind_some] at h
      split at h
      · cases h; exact putR_len r
      · cases h
theorem meantX_len {l t : List UInt8} (h : meantX l = some t) : t.length ≤ 4 := by
  unfold meantX at h
  split at h
  · cases h; simp
  split at h
  · cases h; simp
  split at h
  · cases h; simp
  split at h
  · cases h; simp
  split at h
  · cases h; simp
  split at h
  · exact charX_len h
  split at h
  · exact charX_len h
  · cases h
theorem refX_bd {l t : List UInt8} {n : Nat} (h : refX l = some (t, n)) : t.length ≤ 4 ∧ 1 ≤ n ∧ n ≤ l.length := by
  unfold refX at h
  rcases indexByte_bd l 59 with e | ⟨k, e, hk, _⟩
  · rw [if_pos (by omega)] at h; cases h
  · rw [if_neg (by omega)] at h
    cases hm : meantX ((l.drop 1).take ((Lib.indexByte l 59).toNat - 1)) with
    | none => rw [hm] at h; cases h
    | some x =>
      rw [hm] at h
      simp only [Option.map_some, Option.some.injEq, Prod.mk.injEq] at h
      obtain ⟨rfl, rfl⟩ := h
      exact ⟨meantX_len hm, by omega, by omega⟩
theorem wordsX_len : ∀ (f : Nat) (l : List UInt8) (a : Nat) (acc t : List UInt8), wordsX f l a acc = .ok t → t.length ≤ acc.length + 4 * l.length
  | 0, _, _, _, _, h => by cases h
  | f + 1, l, a, acc, t, h => by
    rw [wordsX] at h
    split at h
    · cases h; omega
    split at h
    · cases h; have := linesX_len l; simp; omega
    rename_i h1
    obtain ⟨k, hk, hkl, c, hc, hcc⟩ := (indexAny_bd [38, 93] l).resolve_left (by omega)
    split at h
    · have ih := wordsX_len f _ _ _ _ h
      have h2 := linesX_len (l.take (Lib.indexAny l [38, 93]).toNat)
      rw [hk] at ih h2
      simp at ih h2
      omega
    split at h
    · split at h
      · cases h
      · rename_i x n hx
        have ih := wordsX_len f _ _ _ _ h
        have hb := refX_bd hx
        simp at ih
        omega
    split at h
    · cases h
    · have ih := wordsX_len f _ _ _ _ h
      simp at ih
      omega
theorem valueX_bd (ca : Nat) (q : UInt8) : ∀ (f : Nat) (l : List UInt8) (a : Nat) (acc v : List UInt8) (e : Nat), valueX ca q f l a acc = .ok (v, e) → v.length ≤ acc.length + 4 * l.length ∧ a < e ∧ e ≤ a + l.length
  | 0, _, _, _, _, _, h => by cases h
  | f + 1, [], a, acc, v, e, h => by rw [valueX] at h; cases h
  | f + 1, c :: t, a, acc, v, e, h => by
    rw [valueX] at h
    split at h
    · cases h; simp
    split at h
    · cases h
    split at h
    · split at h
      · cases h
      · rename_i x n hx
        have ih := valueX_bd ca q f _ _ _ _ _ h
        have hb := refX_bd hx
        simp at ih hb ⊢
        omega
    split at h
    · rename_i hh
      have hp := Lib.hasPrefix_le hh.2
      have ih := valueX_bd ca q f _ _ _ _ _ h
      simp at ih hp ⊢
      omega
    split at h
    · have ih := valueX_bd ca q f _ _ _ _ _ h
      simp at ih ⊢
      omega
    · have ih := valueX_bd ca q f _ _ _ _ _ h
      simp at ih ⊢
      omega
theorem attrX_bd {f : Nat} {s : List UInt8} {ca : Nat} {l : List XA} {a e : Nat} {x : XA} (ha : a ≤ s.length) (h : attrX f s ca l a = .ok (x, e)) : a < e ∧ e ≤ s.length ∧ x.name.length ≤ s.length ∧ x.value.length ≤ 4 * s.length ∧ x.place = a := by
  unfold attrX at h
  simp only [] at h
  split at h
  · cases h
  split at h
  · cases h
  rename_i h2
  split at h
  · cases h
  rename_i q hq
  split at h
  · split at h
    · cases h
    · cases h
    · rename_i v e' hv
      have hb := valueX_bd ca q f _ _ _ _ _ hv
      cases h
      have h4 := (List.getElem?_eq_some_iff.1 hq).1
      simp at hb ⊢
      omega
  · cases h
theorem endX_bd (s : List UInt8) (a : Nat) (ha : a ≤ s.length) : a ≤ endX s a ∧ endX s a ≤ s.length := by
  unfold endX
  rcases indexByte_bd (s.drop a) 60 with e | ⟨k, e, hk, _⟩
  · rw [if_pos (by omega)]; omega
  · rw [if_neg (by omega), e]; simp at hk ⊢; omega
end Go.Proofs.YtmhhkekokfpppaaDoor
