/- Plain laws on the cutter's words: what stands behind what was read changes nothing. The cutter's step, whole; a run between other texts. The cutter's step between other texts; runs. The cutter's runs between other texts. The cutter's runs: an element stands around a text, ahead of it, behind it. A text behind another one is cut alike. A document made of tokens; one that stands in one more element. No program in sight. Documents of runs: in one more element, or not closed. No program in sight. The cutter as a whole: steps are enough; it tells a run, or a reason. No program in sight. What a text's document comes to in elements around it; texts that are not closed. No program in sight. The shape of a document that was read: ups, kids, depths. No program in sight. Documents that were read lie well; the plain law of texts that are not closed. No program in sight. -/
import Derived.Test.YtajnpmhgldfgfaaXkAL
import Derived.Test.YtajnpmhgldfgfaaUtAB
import Derived.Lib.Index
namespace Go.Proofs.Ytajnpmhgldfgfaa
open Go.RowKit
set_option linter.unusedVariables false

theorem runes_front : ∀ (k : Nat) (a b : List UInt8), a.length ≤ k → runesL a <+: runesL (a ++ b)
  | 0, a, b, h => by
    obtain rfl : a = [] := List.eq_nil_of_length_eq_zero (by omega)
    rw [runesL_none (l := []) rfl]; exact List.nil_prefix
  | k + 1, a, b, h => by
    cases hn : nextL a with
    | none => rw [runesL_none hn]; exact List.nil_prefix
    | some p =>
      obtain ⟨r, n⟩ := p
      have hb := nextL_bd hn
      rw [runesL_some (nextL_append (b := b) hn), runesL_some hn, List.drop_append_of_le_length hb.2.1, List.prefix_cons_inj]
      exact runes_front k (a.drop n) b (by simp; omega)
theorem runesAt_front : ∀ (k : Nat) {x y : List (Nat × Nat)}, x <+: y → runesAt k x <+: runesAt k y
  | _, [], _, _ => List.nil_prefix
  | k, (r, n) :: t, [], h => by simp at h
  | k, (r, n) :: t, (r', n') :: t', h => by
    rw [List.cons_prefix_cons] at h
    obtain ⟨h1, h2⟩ := h
    cases h1
    show (k, r) :: runesAt (k + n) t <+: (k, r) :: runesAt (k + n) t'
    rw [List.prefix_cons_inj]
    exact runesAt_front (k + n) h2
theorem allRunes_front (a b : List UInt8) : allRunes a <+: allRunes (a ++ b) := runesAt_front 0 (runes_front _ a b (Nat.le_refl _))
theorem nameX_app {l : List UInt8} (q : List UInt8) (h : nameX l < l.length) : nameX (l ++ q) = nameX l := by
  unfold nameX at h ⊢
  obtain ⟨t, ht⟩ := allRunes_front l q
  rw [← ht, List.find?_append]
  cases hf : (allRunes l).find? (fun p => !namePartR (p.2 : Int) || (p.1 == 0 && !nameStartR (p.2 : Int))) with
  | none => rw [hf] at h; exact absurd h (Nat.lt_irrefl _)
  | some p => rfl
theorem blanksX_app {l : List UInt8} (q : List UInt8) (h : blanksX l < l.length) : blanksX (l ++ q) = blanksX l := by
  unfold blanksX Lib.trimLeftS at h ⊢
  rw [List.dropWhile_append]
  have hne : (l.dropWhile fun x => [32, 9, 10, 13].contains x).isEmpty = false := by
    cases hd : l.dropWhile fun x => [32, 9, 10, 13].contains x with
    | nil => rw [hd] at h; simp at h
    | cons a t => rfl
  rw [hne]
  simp only [Bool.false_eq_true, if_false, List.length_append]
  omega
theorem indexByte_app {l : List UInt8} (q : List UInt8) (c : UInt8) (h : 0 ≤ Lib.indexByte l c) : Lib.indexByte (l ++ q) c = Lib.indexByte l c := by
  induction l with
  | nil => exact absurd h (by show ¬ (0 : Int) ≤ -1; decide)
  | cons b t ih =>
    rw [List.cons_append]
    unfold Lib.indexByte at h ⊢
    by_cases hb : (b == c) = true
    · rw [if_pos hb, if_pos hb]
    · rw [if_neg hb] at h ⊢
      rw [if_neg hb]
      by_cases hi : (Lib.indexByte t c == -1) = true
      · rw [if_pos hi] at h; exact absurd h (by decide)
      · rw [if_neg hi] at h
        have hg := Lib.indexByte_ge t c
        have h0 : 0 ≤ Lib.indexByte t c := by
          have : Lib.indexByte t c ≠ -1 := fun e => hi (by rw [e]; rfl)
          omega
        rw [ih h0]
theorem index_long : ∀ {l p : List UInt8}, 0 ≤ Lib.index l p → p ≠ [] → p.length ≤ l.length
  | [], p, h, hp => by
    unfold Lib.index at h
    cases p with
    | nil => exact absurd rfl hp
    | cons a t => exact absurd h (by show ¬ (0 : Int) ≤ -1; decide)
  | b :: t, p, h, hp => by
    unfold Lib.index at h
    by_cases hb : p.isPrefixOf (b :: t) = true
    · exact (List.isPrefixOf_iff_prefix.1 hb).length_le
    · rw [if_neg hb] at h
      by_cases hi : (Lib.index t p == -1) = true
      · rw [if_pos hi] at h; exact absurd h (by decide)
      · have hg := Lib.index_ge t p
        have : Lib.index t p ≠ -1 := fun e => hi (by rw [e]; rfl)
        have := index_long (l := t) (p := p) (by omega) hp
        rw [List.length_cons]; omega
theorem index_app {p : List UInt8} (q : List UInt8) (hp : p ≠ []) : ∀ {l : List UInt8}, 0 ≤ Lib.index l p → Lib.index (l ++ q) p = Lib.index l p
  | [], h => by
    unfold Lib.index at h
    cases p with
    | nil => exact absurd rfl hp
    | cons a t => exact absurd h (by show ¬ (0 : Int) ≤ -1; decide)
  | b :: t, h => by
    have hl := index_long h hp
    rw [List.cons_append]
    unfold Lib.index at h ⊢
    by_cases hb : p.isPrefixOf (b :: t) = true
    · rw [if_pos hb, if_pos (List.isPrefixOf_iff_prefix.2 ((List.isPrefixOf_iff_prefix.1 hb).trans (by rw [← List.cons_append]; exact List.prefix_append _ _)))]
    · have hb' : ¬ p.isPrefixOf (b :: (t ++ q)) = true := fun h2 => hb (List.isPrefixOf_iff_prefix.2 (List.prefix_of_prefix_length_le (List.isPrefixOf_iff_prefix.1 h2) (by rw [← List.cons_append]; exact List.prefix_append _ _) hl))
      rw [if_neg hb] at h ⊢
      rw [if_neg hb']
      by_cases hi : (Lib.index t p == -1) = true
      · rw [if_pos hi] at h; exact absurd h (by decide)
      · have hg := Lib.index_ge t p
        have : Lib.index t p ≠ -1 := fun e => hi (by rw [e]; rfl)
        rw [index_app q hp (l := t) (by omega)]
theorem refX_app {l t : List UInt8} {n : Nat} (q : List UInt8) (h : refX l = some (t, n)) : refX (l ++ q) = some (t, n) := by
  unfold refX at h ⊢
  by_cases h0 : Lib.indexByte l 59 < 0
  · rw [if_pos h0] at h; cases h
  · rw [if_neg h0] at h
    rw [indexByte_app q 59 (by omega), if_neg h0]
    rcases indexByte_bd l 59 with h1 | ⟨k, hk, hkl, -⟩
    · omega
    · rw [hk] at h ⊢
      have e : ((l ++ q).drop 1).take ((k : Int).toNat - 1) = (l.drop 1).take ((k : Int).toNat - 1) := by
        rw [List.drop_append_of_le_length (by omega), List.take_append_of_le_length (by rw [List.length_drop]; omega)]
      rw [e]
      exact h
/-- A front that is one stays one. -/
theorem hp_yes {l p : List UInt8} (q : List UInt8) (h : Lib.hasPrefix l p = true) : Lib.hasPrefix (l ++ q) p = true := by
  unfold Lib.hasPrefix at h ⊢
  rw [List.isPrefixOf_iff_prefix] at h ⊢
  exact h.trans (List.prefix_append l q)
/-- A front that is none stays none, if what follows begins with a sign that it lacks. -/
theorem hp_app {l p : List UInt8} {c : UInt8} (q : List UInt8) (hp : c ∉ p) : Lib.hasPrefix (l ++ c :: q) p = Lib.hasPrefix l p := by
  unfold Lib.hasPrefix
  induction p generalizing l with
  | nil => rfl
  | cons a p ih =>
    cases l with
    | nil =>
      simp only [List.nil_append, List.isPrefixOf]
      have : (a == c) = false := beq_eq_false_iff_ne.2 (fun e => hp (by simp [e]))
      rw [this]
      rfl
    | cons b l =>
      simp only [List.cons_append, List.isPrefixOf]
      rw [ih (fun h => hp (List.mem_cons_of_mem _ h))]
theorem hp_app1 {l p : List UInt8} {a c : UInt8} (q : List UInt8) (hp : c ∉ p) (hl : l ≠ []) : Lib.hasPrefix (l ++ c :: q) (a :: p) = Lib.hasPrefix l (a :: p) := by
  cases l with
  | nil => exact absurd rfl hl
  | cons b l =>
    have := hp_app (l := l) (p := p) q hp
    unfold Lib.hasPrefix at this ⊢
    simp only [List.cons_append, List.isPrefixOf]
    rw [this]
/-- A text between others: s stands at d in p ++ s ++ z. -/
theorem mid_drop (p s z : List UInt8) {a : Nat} (ha : a ≤ s.length) : (p ++ s ++ z).drop (a + p.length) = s.drop a ++ z := by
  rw [List.append_assoc, Nat.add_comm, List.drop_append, List.drop_eq_nil_of_le (by omega), List.nil_append, Nat.add_sub_cancel_left, List.drop_append_of_le_length ha]
theorem mid_at (p s z : List UInt8) {a : Nat} {c : UInt8} (h : s[a]? = some c) : (p ++ s ++ z)[a + p.length]? = some c := by
  obtain ⟨ha, rfl⟩ := List.getElem?_eq_some_iff.1 h
  rw [List.append_assoc, List.getElem?_append_right (by omega), Nat.add_sub_cancel, List.getElem?_append_left ha, List.getElem?_eq_getElem ha]
theorem valueX_app (ca ca' : Nat) (q : UInt8) (d : Nat) (z : List UInt8) : ∀ (f : Nat) (l : List UInt8) (a : Nat) (acc v : List UInt8) (e : Nat),
    valueX ca q f l a acc = .ok (v, e) → valueX ca' q f (l ++ 60 :: z) (a + d) acc = .ok (v, e + d)
  | 0, l, a, acc, v, e, h => by cases h
  | f + 1, [], a, acc, v, e, h => by cases h
  | f + 1, c :: t, a, acc, v, e, h => by
    rw [List.cons_append]
    unfold valueX at h ⊢
    simp only at h ⊢
    by_cases h1 : c = q
    · rw [if_pos h1] at h ⊢
      cases h
      rw [show a + d + 1 = a + 1 + d by omega]
    rw [if_neg h1] at h ⊢
    by_cases h2 : c = 60
    · rw [if_pos h2] at h; cases h
    rw [if_neg h2] at h ⊢
    by_cases h3 : c = 38
    · rw [if_pos h3] at h ⊢
      cases hr : refX (c :: t) with
      | none => rw [hr] at h; cases h
      | some xn =>
        obtain ⟨x, n⟩ := xn
        rw [hr] at h
        have hb := refX_bd hr
        rw [← List.cons_append, refX_app (60 :: z) hr]
        simp only at h ⊢
        rw [List.drop_append_of_le_length hb.2.2, show a + d + n = a + n + d by omega]
        exact valueX_app ca ca' q d z f _ _ _ v e h
    rw [if_neg h3] at h ⊢
    have hp : Lib.hasPrefix (c :: (t ++ 60 :: z)) [13, 10] = Lib.hasPrefix (c :: t) [13, 10] := by
      rw [← List.cons_append]; exact hp_app z (by decide)
    rw [hp]
    by_cases h4 : c = 13 ∧ Lib.hasPrefix (c :: t) [13, 10] = true
    · rw [if_pos h4] at h ⊢
      have ht : 1 ≤ t.length := by
        cases t with
        | nil => have := h4.2; unfold Lib.hasPrefix at this; simp [List.isPrefixOf] at this
        | cons x y => simp
      rw [List.drop_append_of_le_length ht, show a + d + 2 = a + 2 + d by omega]
      exact valueX_app ca ca' q d z f _ _ _ v e h
    rw [if_neg h4] at h ⊢
    by_cases h5 : c = 13 ∨ c = 10 ∨ c = 9
    · rw [if_pos h5] at h ⊢
      rw [show a + d + 1 = a + 1 + d by omega]
      exact valueX_app ca ca' q d z f _ _ _ v e h
    · rw [if_neg h5] at h ⊢
      rw [show a + d + 1 = a + 1 + d by omega]
      exact valueX_app ca ca' q d z f _ _ _ v e h
def shA (d : Nat) (x : XA) : XA := ⟨x.name, x.value, x.place + d⟩
def shT (d : Nat) (t : XT) : XT := ⟨t.kind, t.place + d, t.name, t.text, t.attrs.map (shA d), t.empty⟩
theorem attrX_app {f : Nat} {s : List UInt8} {ca : Nat} {l : List XA} {a e : Nat} {x : XA} (p z : List UInt8) (ha : a ≤ s.length) (h : attrX f s ca l a = .ok (x, e)) :
    attrX f (p ++ s ++ 60 :: z) (ca + p.length) (l.map (shA p.length)) (a + p.length) = .ok (shA p.length x, e + p.length) := by
  unfold attrX at h ⊢
  simp only [] at h ⊢
  have hle := nameX_le (s.drop a)
  rw [List.length_drop] at hle
  by_cases h1 : l.any (fun x => decide (x.name = (s.drop a).take (nameX (s.drop a)))) = true
  · rw [if_pos h1] at h; cases h
  rw [if_neg h1] at h
  by_cases h2 : nameX (s.drop a) = 0 ∨ s[a + nameX (s.drop a) + blanksX (s.drop (a + nameX (s.drop a)))]? ≠ some 61
  · rw [if_pos h2] at h; cases h
  rw [if_neg h2] at h
  have h2n : nameX (s.drop a) ≠ 0 := fun e => h2 (.inl e)
  have h2s : s[a + nameX (s.drop a) + blanksX (s.drop (a + nameX (s.drop a)))]? = some 61 := Classical.byContradiction fun e => h2 (.inr e)
  have hlt := (List.getElem?_eq_some_iff.1 h2s).1
  have hn : nameX ((p ++ s ++ 60 :: z).drop (a + p.length)) = nameX (s.drop a) := by
    rw [mid_drop p s _ ha]
    exact nameX_app _ (by rw [List.length_drop]; omega)
  have hnm : ((p ++ s ++ 60 :: z).drop (a + p.length)).take (nameX (s.drop a)) = (s.drop a).take (nameX (s.drop a)) := by
    rw [mid_drop p s _ ha, List.take_append_of_le_length (nameX_le _)]
  rw [hn, hnm]
  obtain ⟨n, hnn⟩ : ∃ n, nameX (s.drop a) = n := ⟨_, rfl⟩
  rw [hnn] at h h2n h2s hlt h1 hle ⊢
  have hany : (l.map (shA p.length)).any (fun x => decide (x.name = (s.drop a).take n)) = l.any (fun x => decide (x.name = (s.drop a).take n)) := by
    rw [List.any_map]; rfl
  rw [hany, if_neg h1]
  have hb : blanksX ((p ++ s ++ 60 :: z).drop (a + p.length + n)) = blanksX (s.drop (a + n)) := by
    rw [show a + p.length + n = a + n + p.length by omega, mid_drop p s _ (by omega)]
    exact blanksX_app _ (by rw [List.length_drop]; omega)
  rw [hb]
  obtain ⟨k, hk⟩ : ∃ k, blanksX (s.drop (a + n)) = k := ⟨_, rfl⟩
  rw [hk] at h h2s hlt ⊢
  rw [show a + p.length + n + k = a + n + k + p.length by omega]
  rw [if_neg (by rw [mid_at p s _ h2s]; simp [h2n])]
  cases h4 : s[a + n + k + 1 + blanksX (s.drop (a + n + k + 1))]? with
  | none => rw [h4] at h; cases h
  | some q =>
    rw [h4] at h
    have hlt4 := (List.getElem?_eq_some_iff.1 h4).1
    have hb4 : blanksX ((p ++ s ++ 60 :: z).drop (a + n + k + p.length + 1)) = blanksX (s.drop (a + n + k + 1)) := by
      rw [show a + n + k + p.length + 1 = a + n + k + 1 + p.length by omega, mid_drop p s _ (by omega)]
      exact blanksX_app _ (by rw [List.length_drop]; omega)
    rw [hb4]
    obtain ⟨j, hj⟩ : ∃ j, blanksX (s.drop (a + n + k + 1)) = j := ⟨_, rfl⟩
    rw [hj] at h h4 hlt4 ⊢
    rw [show a + n + k + p.length + 1 + j = a + n + k + 1 + j + p.length by omega, mid_at p s _ h4]
    simp only at h ⊢
    by_cases hq : q = 34 ∨ q = 39
    · rw [if_pos hq] at h ⊢
      cases hv : valueX ca q f (s.drop (a + n + k + 1 + j + 1)) (a + n + k + 1 + j + 1) [] with
      | none => rw [hv] at h; cases h
      | bad e => rw [hv] at h; cases h
      | ok ve =>
        obtain ⟨v, e'⟩ := ve
        rw [hv] at h
        have := valueX_app ca (ca + p.length) q p.length z f _ _ _ _ _ hv
        rw [show a + n + k + 1 + j + p.length + 1 = a + n + k + 1 + j + 1 + p.length by omega, mid_drop p s _ (by omega), this]
        simp only at h ⊢
        cases h
        rfl
    · rw [if_neg hq] at h; cases h
theorem openGo_app {s : List UInt8} {ca : Nat} (p z : List UInt8) : ∀ (f : Nat) (l : List XA) (a : Nat) (l' : List XA) (em : Bool) (e : Nat), a ≤ s.length → openGo s ca f l a = .ok (l', em, e) →
    openGo (p ++ s ++ 60 :: z) (ca + p.length) f (l.map (shA p.length)) (a + p.length) = .ok (l'.map (shA p.length), em, e + p.length)
  | 0, l, a, l', em, e, ha, h => by cases h
  | f + 1, l, a, l', em, e, ha, h => by
    unfold openGo at h ⊢
    simp only [] at h ⊢
    have hble := blanksX_le (s.drop a)
    rw [List.length_drop] at hble
    by_cases hend : a + blanksX (s.drop a) < s.length
    · have hb : blanksX ((p ++ s ++ 60 :: z).drop (a + p.length)) = blanksX (s.drop a) := by
        rw [mid_drop p s _ ha]
        exact blanksX_app _ (by rw [List.length_drop]; omega)
      rw [hb]
      obtain ⟨k, hk⟩ : ∃ k, blanksX (s.drop a) = k := ⟨_, rfl⟩
      rw [hk] at h hend ⊢
      rw [show a + p.length + k = a + k + p.length by omega, mid_drop p s _ (by omega), hp_app z (by decide), hp_app z (by decide)]
      by_cases h1 : Lib.hasPrefix (s.drop (a + k)) [62] = true
      · rw [if_pos h1] at h ⊢
        cases h
        rw [show a + k + p.length + 1 = a + k + 1 + p.length by omega]
      rw [if_neg h1] at h ⊢
      by_cases h2 : Lib.hasPrefix (s.drop (a + k)) [47, 62] = true
      · rw [if_pos h2] at h ⊢
        cases h
        rw [show a + k + p.length + 2 = a + k + 2 + p.length by omega]
      rw [if_neg h2] at h ⊢
      by_cases h3 : k = 0
      · rw [if_pos h3] at h; cases h
      rw [if_neg h3] at h ⊢
      cases hx : attrX f s ca l (a + k) with
      | none => rw [hx] at h; cases h
      | bad e => rw [hx] at h; cases h
      | ok xe =>
        obtain ⟨x, e'⟩ := xe
        rw [hx] at h
        have hbd := attrX_bd (by omega) hx
        rw [attrX_app p z (by omega) hx]
        simp only at h ⊢
        have := openGo_app p z f (l ++ [x]) e' l' em e hbd.2.1 h
        rw [List.map_append] at this
        exact this
    · exfalso
      have hd : s.drop (a + blanksX (s.drop a)) = [] := List.drop_eq_nil_of_le (by omega)
      rw [hd] at h
      have e1 : Lib.hasPrefix ([] : List UInt8) [62] = false := rfl
      have e2 : Lib.hasPrefix ([] : List UInt8) [47, 62] = false := rfl
      rw [e1, e2] at h
      simp only [Bool.false_eq_true, if_false] at h
      split at h
      · cases h
      · have : ∀ y, attrX f s ca l (a + blanksX (s.drop a)) ≠ .ok y := fun y hy => by
          obtain ⟨y1, y2⟩ := y
          have := attrX_bd (by omega) hy
          omega
        split at h
        · cases h
        · cases h
        · rename_i hy
          exact this _ hy
theorem openX_app {f : Nat} {s : List UInt8} {ca e : Nat} {t : XT} (p z : List UInt8) (ha : ca < s.length) (h : openX f s ca = .ok (t, e)) :
    openX f (p ++ s ++ 60 :: z) (ca + p.length) = .ok (shT p.length t, e + p.length) := by
  unfold openX at h ⊢
  simp only [] at h ⊢
  have hle := nameX_le (s.drop (ca + 1))
  rw [List.length_drop] at hle
  by_cases h0 : nameX (s.drop (ca + 1)) = 0
  · rw [if_pos h0] at h; cases h
  rw [if_neg h0] at h
  cases hg : openGo s ca f [] (ca + 1 + nameX (s.drop (ca + 1))) with
  | none => rw [hg] at h; cases h
  | bad e => rw [hg] at h; cases h
  | ok r =>
    obtain ⟨l, em, e'⟩ := r
    have hlt : ca + 1 + nameX (s.drop (ca + 1)) < s.length := by
      refine Classical.byContradiction fun hc => ?_
      have hd : s.drop (ca + 1 + nameX (s.drop (ca + 1))) = [] := List.drop_eq_nil_of_le (by omega)
      cases f with
      | zero => cases hg
      | succ f =>
        unfold openGo at hg
        simp only [hd] at hg
        have e0 : blanksX ([] : List UInt8) = 0 := rfl
        rw [e0] at hg
        simp only [Nat.add_zero, hd] at hg
        have e1 : Lib.hasPrefix ([] : List UInt8) [62] = false := rfl
        have e2 : Lib.hasPrefix ([] : List UInt8) [47, 62] = false := rfl
        rw [e1, e2] at hg
        simp at hg
    have hn : nameX ((p ++ s ++ 60 :: z).drop (ca + p.length + 1)) = nameX (s.drop (ca + 1)) := by
      rw [show ca + p.length + 1 = ca + 1 + p.length by omega, mid_drop p s _ (by omega)]
      exact nameX_app _ (by rw [List.length_drop]; omega)
    rw [hg] at h
    rw [hn, if_neg h0]
    have hgo := openGo_app p z f [] _ l em e' (by omega) hg
    rw [show ca + p.length + 1 + nameX (s.drop (ca + 1)) = ca + 1 + nameX (s.drop (ca + 1)) + p.length by omega]
    rw [List.map_nil] at hgo
    rw [hgo]
    simp only at h ⊢
    cases h
    rw [show ca + p.length + 1 = ca + 1 + p.length by omega, mid_drop p s _ (by omega), List.take_append_of_le_length (nameX_le _)]
    rfl
theorem closeX_app {s : List UInt8} {ca e : Nat} {t : XT} (p z : List UInt8) (ha : ca + 2 ≤ s.length) (h : closeX s ca = .ok (t, e)) :
    closeX (p ++ s ++ 60 :: z) (ca + p.length) = .ok (shT p.length t, e + p.length) := by
  unfold closeX at h ⊢
  simp only [] at h ⊢
  have hle := nameX_le (s.drop (ca + 2))
  rw [List.length_drop] at hle
  by_cases h0 : nameX (s.drop (ca + 2)) = 0 ∨ s[ca + 2 + nameX (s.drop (ca + 2)) + blanksX (s.drop (ca + 2 + nameX (s.drop (ca + 2))))]? ≠ some 62
  · rw [if_pos h0] at h; cases h
  rw [if_neg h0] at h
  have h2n : nameX (s.drop (ca + 2)) ≠ 0 := fun e => h0 (.inl e)
  have h2s : s[ca + 2 + nameX (s.drop (ca + 2)) + blanksX (s.drop (ca + 2 + nameX (s.drop (ca + 2))))]? = some 62 := Classical.byContradiction fun e => h0 (.inr e)
  have hlt := (List.getElem?_eq_some_iff.1 h2s).1
  have hn : nameX ((p ++ s ++ 60 :: z).drop (ca + p.length + 2)) = nameX (s.drop (ca + 2)) := by
    rw [show ca + p.length + 2 = ca + 2 + p.length by omega, mid_drop p s _ (by omega)]
    exact nameX_app _ (by rw [List.length_drop]; omega)
  have hb : blanksX ((p ++ s ++ 60 :: z).drop (ca + p.length + 2 + nameX (s.drop (ca + 2)))) = blanksX (s.drop (ca + 2 + nameX (s.drop (ca + 2)))) := by
    rw [show ca + p.length + 2 + nameX (s.drop (ca + 2)) = ca + 2 + nameX (s.drop (ca + 2)) + p.length by omega, mid_drop p s _ (by omega)]
    exact blanksX_app _ (by rw [List.length_drop]; omega)
  rw [hn, hb]
  rw [show ca + p.length + 2 + nameX (s.drop (ca + 2)) + blanksX (s.drop (ca + 2 + nameX (s.drop (ca + 2)))) = ca + 2 + nameX (s.drop (ca + 2)) + blanksX (s.drop (ca + 2 + nameX (s.drop (ca + 2)))) + p.length by omega]
  rw [if_neg (by rw [mid_at p s _ h2s]; simp [h2n])]
  cases h
  rw [show ca + p.length + 2 = ca + 2 + p.length by omega, mid_drop p s _ (by omega), List.take_append_of_le_length (nameX_le _)]
  rw [show ca + 2 + nameX (s.drop (ca + 2)) + blanksX (s.drop (ca + 2 + nameX (s.drop (ca + 2)))) + p.length + 1 = ca + 2 + nameX (s.drop (ca + 2)) + blanksX (s.drop (ca + 2 + nameX (s.drop (ca + 2)))) + 1 + p.length by omega]
  rfl
end Go.Proofs.Ytajnpmhgldfgfaa
namespace Go.Proofs.Ytajnpmhgldfgfaa
open Go.RowKit
set_option linter.unusedVariables false

def cdataB : List UInt8 := [60, 33, 91, 67, 68, 65, 84, 65, 91]
def remarkB : List UInt8 := [60, 33, 45, 45]
def wCdata : List UInt8 := [67, 68, 65, 84, 65]
def wRemark : List UInt8 := [114, 101, 109, 97, 114, 107]
def wDashes : List UInt8 := [45, 45]
def wOrder : List UInt8 := [111, 114, 100, 101, 114]
/-- A Text that stands as it is. -/
def rawX (s : List UInt8) (ca : Nat) : XR (List UInt8 × Nat) :=
  if Lib.index (s.drop (ca + 9)) [93, 93, 62] < 0 then .bad ⟨11, ca, wCdata⟩
  else .ok (linesX ((s.drop (ca + 9)).take (Lib.index (s.drop (ca + 9)) [93, 93, 62]).toNat), ca + 9 + (Lib.index (s.drop (ca + 9)) [93, 93, 62]).toNat + 3)
/-- A remark. -/
def skipX (s : List UInt8) (ca : Nat) : XR Nat :=
  if Lib.index (s.drop (ca + 4)) [45, 45] < 0 ∨ ca + 4 + (Lib.index (s.drop (ca + 4)) [45, 45]).toNat + 2 = s.length then .bad ⟨11, ca, wRemark⟩
  else if Lib.hasPrefix (s.drop (ca + 4 + (Lib.index (s.drop (ca + 4)) [45, 45]).toNat)) [45, 45, 62] = false then .bad ⟨11, ca + 4 + (Lib.index (s.drop (ca + 4)) [45, 45]).toNat, wDashes⟩
  else .ok (ca + 4 + (Lib.index (s.drop (ca + 4)) [45, 45]).toNat + 3)
/-- Is a name 'xml', in whatever letters? -/
def foldXml (l : List UInt8) : Bool := (l.map fun c => if 65 ≤ c ∧ c ≤ 90 then c + 32 else c) == [120, 109, 108]
/-- An order. -/
def orderX (s : List UInt8) (ca : Nat) : XR Nat :=
  let k := nameX (s.drop (ca + 2))
  let n := Lib.index (s.drop (ca + 2 + k)) [63, 62]
  if k = 0 ∨ n < 0 ∨ (foldXml ((s.drop (ca + 2)).take k) = true ∧ 0 < ca) then .bad ⟨11, ca, wOrder⟩ else .ok (ca + 2 + k + n.toNat + 2)
/-- One step. -/
def nextF (f : Nat) (s : List UInt8) (c : XS) : XR XS :=
  let rest := s.drop c.place
  if rest[0]? ≠ some 60 then
    match wordsX f ((s.drop c.place).take (endX s c.place - c.place)) c.place [] with
    | .none => .none
    | .bad e => .bad e
    | .ok x => .ok { addX c c.place x with place := endX s c.place }
  else if Lib.hasPrefix rest cdataB then
    match rawX s c.place with
    | .none => .none
    | .bad e => .bad e
    | .ok (x, e) => .ok { addX c c.place x with place := e }
  else if Lib.hasPrefix rest remarkB then
    match skipX s c.place with
    | .none => .none
    | .bad e => .bad e
    | .ok e => .ok { c with place := e }
  else if Lib.hasPrefix rest [60, 63] then
    match orderX s c.place with
    | .none => .none
    | .bad e => .bad e
    | .ok e => .ok { c with place := e }
  else if Lib.hasPrefix rest [60, 33] then .bad ⟨11, c.place, wDeclaration⟩
  else if Lib.hasPrefix rest [60, 47] then
    match closeX s c.place with
    | .none => .none
    | .bad e => .bad e
    | .ok (t, e) => .ok { finX c with out := (finX c).out ++ [t], place := e }
  else
    match openX f s c.place with
    | .none => .none
    | .bad e => .bad e
    | .ok (t, e) => .ok { finX c with out := (finX c).out ++ [t], place := e }
/-- Two states that are alike but for their places, and what was told ahead. -/
def Sh (d : Nat) (pre : List XT) (c c' : XS) : Prop := c'.place = c.place + d ∧ c'.out = pre ++ c.out.map (shT d) ∧ c'.text = c.text ∧ (c.text ≠ [] → c'.since = c.since + d)
theorem Sh.add {d : Nat} {pre : List XT} {c c' : XS} (h : Sh d pre c c') (x : List UInt8) (e : Nat) : Sh d pre { addX c c.place x with place := e } { addX c' c'.place x with place := e + d } := by
  obtain ⟨h1, h2, h3, h4⟩ := h
  unfold addX
  by_cases hx : x = []
  · rw [if_pos hx, if_pos hx]; exact ⟨rfl, h2, h3, h4⟩
  · rw [if_neg hx, if_neg hx]
    refine ⟨rfl, h2, by simp [h3], fun _ => ?_⟩
    show (if c'.text = [] then c'.place else c'.since) = (if c.text = [] then c.place else c.since) + d
    rw [h3]
    by_cases ht : c.text = []
    · rw [if_pos ht, if_pos ht]; exact h1
    · rw [if_neg ht, if_neg ht]; exact h4 ht
theorem Sh.put {d : Nat} {pre : List XT} {c c' : XS} (h : Sh d pre c c') (t : XT) (e : Nat) : Sh d pre { finX c with out := (finX c).out ++ [t], place := e } { finX c' with out := (finX c').out ++ [shT d t], place := e + d } := by
  obtain ⟨h1, h2, h3, h4⟩ := h
  refine ⟨rfl, ?_, rfl, fun hx => absurd rfl hx⟩
  show (if c'.text = [] then c'.out else c'.out ++ [⟨3, c'.since, [], c'.text, [], false⟩]) ++ [shT d t] = pre ++ ((if c.text = [] then c.out else c.out ++ [⟨3, c.since, [], c.text, [], false⟩]) ++ [t]).map (shT d)
  rw [h3, h2]
  by_cases ht : c.text = []
  · rw [if_pos ht, if_pos ht]; simp
  · rw [if_neg ht, if_neg ht, h4 ht]; simp [shT]
theorem wordsX_at : ∀ (f : Nat) (l : List UInt8) (a a' : Nat) (acc x : List UInt8), wordsX f l a acc = .ok x → wordsX f l a' acc = .ok x
  | 0, _, _, _, _, _, h => by cases h
  | f + 1, l, a, a', acc, x, h => by
    unfold wordsX at h ⊢
    by_cases h1 : l = []
    · rw [if_pos h1] at h ⊢; exact h
    rw [if_neg h1] at h ⊢
    by_cases h2 : Lib.indexAny l [38, 93] < 0
    · rw [if_pos h2] at h ⊢; exact h
    rw [if_neg h2] at h ⊢
    by_cases h3 : 0 < Lib.indexAny l [38, 93]
    · rw [if_pos h3] at h ⊢; exact wordsX_at f _ _ _ _ x h
    rw [if_neg h3] at h ⊢
    by_cases h4 : l[0]? = some 38
    · rw [if_pos h4] at h ⊢
      cases hr : refX l with
      | none => rw [hr] at h; cases h
      | some tn =>
        obtain ⟨t, n⟩ := tn
        rw [hr] at h
        exact wordsX_at f _ _ _ _ x h
    rw [if_neg h4] at h ⊢
    by_cases h5 : Lib.hasPrefix l [93, 93, 62] = true
    · rw [if_pos h5] at h; cases h
    · rw [if_neg h5] at h ⊢; exact wordsX_at f _ _ _ _ x h
theorem indexByte_no {l : List UInt8} {c : UInt8} (z : List UInt8) (h : Lib.indexByte l c < 0) : Lib.indexByte (l ++ c :: z) c = l.length := by
  induction l with
  | nil => show (if (c == c) = true then (0 : Int) else _) = _; simp
  | cons b t ih =>
    rw [List.cons_append]
    unfold Lib.indexByte at h ⊢
    by_cases hb : (b == c) = true
    · rw [if_pos hb] at h; exact absurd h (by decide)
    · rw [if_neg hb] at h ⊢
      by_cases hi : (Lib.indexByte t c == -1) = true
      · have h0 : Lib.indexByte t c < 0 := by rw [beq_iff_eq.1 hi]; decide
        rw [ih h0, if_neg (by simp), List.length_cons]
        omega
      · rw [if_neg hi] at h
        have hg := Lib.indexByte_ge t c
        have : Lib.indexByte t c ≠ -1 := fun e => hi (by rw [e]; rfl)
        omega
theorem endX_app {s : List UInt8} {a : Nat} (p z : List UInt8) (ha : a ≤ s.length) : endX (p ++ s ++ 60 :: z) (a + p.length) = endX s a + p.length := by
  unfold endX
  rw [mid_drop p s _ ha]
  by_cases h : Lib.indexByte (s.drop a) 60 < 0
  · rw [indexByte_no z h, if_pos h, if_neg (by omega), List.length_drop]
    omega
  · rw [indexByte_app _ _ (by omega), if_neg h, if_neg h]
    omega
end Go.Proofs.Ytajnpmhgldfgfaa
namespace Go.Proofs.Ytajnpmhgldfgfaa
open Go.RowKit
set_option linter.unusedVariables false

theorem index_fit : ∀ {l p : List UInt8}, 0 ≤ Lib.index l p → p ≠ [] → (Lib.index l p).toNat + p.length ≤ l.length
  | [], p, h, hp => by
    have := index_long h hp
    cases p with
    | nil => exact absurd rfl hp
    | cons a t => simp at this
  | b :: t, p, h, hp => by
    have hl := index_long h hp
    unfold Lib.index at h ⊢
    by_cases hb : p.isPrefixOf (b :: t) = true
    · rw [if_pos hb]; simpa using hl
    · rw [if_neg hb] at h ⊢
      by_cases hi : (Lib.index t p == -1) = true
      · rw [if_pos hi] at h; exact absurd h (by decide)
      · rw [if_neg hi]
        have hg := Lib.index_ge t p
        have : Lib.index t p ≠ -1 := fun e => hi (by rw [e]; rfl)
        have := index_fit (l := t) (p := p) (by omega) hp
        rw [List.length_cons]
        omega
theorem hp_len {l p : List UInt8} (h : Lib.hasPrefix l p = true) : p.length ≤ l.length := (List.isPrefixOf_iff_prefix.1 h).length_le
theorem rawX_app {s : List UInt8} {ca e : Nat} {x : List UInt8} (p z : List UInt8) (ha : ca + 9 ≤ s.length) (h : rawX s ca = .ok (x, e)) : rawX (p ++ s ++ 60 :: z) (ca + p.length) = .ok (x, e + p.length) ∧ ca < e ∧ e ≤ s.length := by
  unfold rawX at h ⊢
  by_cases h0 : Lib.index (s.drop (ca + 9)) [93, 93, 62] < 0
  · rw [if_pos h0] at h; cases h
  rw [if_neg h0] at h
  cases h
  have hf := index_fit (l := s.drop (ca + 9)) (p := [93, 93, 62]) (by omega) (by decide)
  rw [List.length_drop] at hf
  have e9 : ca + p.length + 9 = ca + 9 + p.length := by omega
  have hi := index_app (p := [93, 93, 62]) (60 :: z) (by decide) (l := s.drop (ca + 9)) (by omega)
  simp only [List.length_cons, List.length_nil] at hf
  refine ⟨?_, by omega, by omega⟩
  rw [e9, mid_drop p s _ ha, hi, if_neg h0, List.take_append_of_le_length (by rw [List.length_drop]; omega)]
  congr 2
  omega
theorem skipX_app {s : List UInt8} {ca e : Nat} (p z : List UInt8) (ha : ca + 4 ≤ s.length) (h : skipX s ca = .ok e) : skipX (p ++ s ++ 60 :: z) (ca + p.length) = .ok (e + p.length) ∧ ca < e ∧ e ≤ s.length := by
  unfold skipX at h ⊢
  by_cases h0 : Lib.index (s.drop (ca + 4)) [45, 45] < 0 ∨ ca + 4 + (Lib.index (s.drop (ca + 4)) [45, 45]).toNat + 2 = s.length
  · rw [if_pos h0] at h; cases h
  rw [if_neg h0] at h
  by_cases h1 : Lib.hasPrefix (s.drop (ca + 4 + (Lib.index (s.drop (ca + 4)) [45, 45]).toNat)) [45, 45, 62] = false
  · rw [if_pos h1] at h; cases h
  rw [if_neg h1] at h
  cases h
  have h1' : Lib.hasPrefix (s.drop (ca + 4 + (Lib.index (s.drop (ca + 4)) [45, 45]).toNat)) [45, 45, 62] = true := by simpa using h1
  have hl := hp_len h1'
  rw [List.length_drop] at hl
  simp only [List.length_cons, List.length_nil] at hl
  have e4 : ca + p.length + 4 = ca + 4 + p.length := by omega
  have hi := index_app (p := [45, 45]) (60 :: z) (by decide) (l := s.drop (ca + 4)) (by omega)
  refine ⟨?_, by omega, by omega⟩
  rw [e4, mid_drop p s _ ha, hi]
  obtain ⟨n, hn⟩ : ∃ n : Nat, (Lib.index (s.drop (ca + 4)) [45, 45]).toNat = n := ⟨_, rfl⟩
  rw [hn] at h0 h1' hl ⊢
  rw [show ca + 4 + p.length + n = ca + 4 + n + p.length by omega, mid_drop p s _ (by omega), hp_yes _ h1']
  rw [if_neg (by simp only [List.length_append, List.length_cons]; omega), if_neg (by decide)]
  congr 1
  omega
theorem orderX_app {s : List UInt8} {ca e : Nat} (p z : List UInt8) (ha : ca + 2 ≤ s.length) (h0 : 0 < ca ∨ p.length = 0) (h : orderX s ca = .ok e) : orderX (p ++ s ++ 60 :: z) (ca + p.length) = .ok (e + p.length) ∧ ca < e ∧ e ≤ s.length := by
  unfold orderX at h ⊢
  simp only [] at h ⊢
  have hle := nameX_le (s.drop (ca + 2))
  rw [List.length_drop] at hle
  by_cases hc : nameX (s.drop (ca + 2)) = 0 ∨ Lib.index (s.drop (ca + 2 + nameX (s.drop (ca + 2)))) [63, 62] < 0 ∨ (foldXml ((s.drop (ca + 2)).take (nameX (s.drop (ca + 2)))) = true ∧ 0 < ca)
  · rw [if_pos hc] at h; cases h
  rw [if_neg hc] at h
  cases h
  have hf := index_fit (l := s.drop (ca + 2 + nameX (s.drop (ca + 2)))) (p := [63, 62]) (by omega) (by decide)
  rw [List.length_drop] at hf
  simp only [List.length_cons, List.length_nil] at hf
  have hn : nameX ((p ++ s ++ 60 :: z).drop (ca + p.length + 2)) = nameX (s.drop (ca + 2)) := by
    rw [show ca + p.length + 2 = ca + 2 + p.length by omega, mid_drop p s _ ha]
    exact nameX_app _ (by rw [List.length_drop]; omega)
  refine ⟨?_, by omega, by omega⟩
  rw [hn]
  obtain ⟨k, hk⟩ : ∃ k, nameX (s.drop (ca + 2)) = k := ⟨_, rfl⟩
  rw [hk] at hc hf hle ⊢
  have hi := index_app (p := [63, 62]) (60 :: z) (by decide) (l := s.drop (ca + 2 + k)) (by omega)
  rw [show ca + p.length + 2 + k = ca + 2 + k + p.length by omega, show ca + p.length + 2 = ca + 2 + p.length by omega, mid_drop p s _ (by omega), mid_drop p s _ ha, hi, List.take_append_of_le_length (by rw [List.length_drop]; omega)]
  rw [if_neg (by rintro (h | h | h); exact hc (.inl h); exact hc (.inr (.inl h)); exact hc (.inr (.inr ⟨h.1, by have := h.2; omega⟩)))]
  congr 1
  omega
theorem openGo_bd {s : List UInt8} {ca : Nat} : ∀ (f : Nat) (l : List XA) (a : Nat) (l' : List XA) (em : Bool) (e : Nat), a ≤ s.length → openGo s ca f l a = .ok (l', em, e) → a < e ∧ e ≤ s.length
  | 0, l, a, l', em, e, ha, h => by cases h
  | f + 1, l, a, l', em, e, ha, h => by
    unfold openGo at h
    simp only [] at h
    by_cases h1 : Lib.hasPrefix (s.drop (a + blanksX (s.drop a))) [62] = true
    · rw [if_pos h1] at h
      cases h
      have := hp_len h1
      rw [List.length_drop] at this
      simp only [List.length_cons, List.length_nil] at this
      omega
    rw [if_neg h1] at h
    by_cases h2 : Lib.hasPrefix (s.drop (a + blanksX (s.drop a))) [47, 62] = true
    · rw [if_pos h2] at h
      cases h
      have := hp_len h2
      rw [List.length_drop] at this
      simp only [List.length_cons, List.length_nil] at this
      omega
    rw [if_neg h2] at h
    by_cases h3 : blanksX (s.drop a) = 0
    · rw [if_pos h3] at h; cases h
    rw [if_neg h3] at h
    have hble := blanksX_le (s.drop a)
    rw [List.length_drop] at hble
    cases hx : attrX f s ca l (a + blanksX (s.drop a)) with
    | none => rw [hx] at h; cases h
    | bad e => rw [hx] at h; cases h
    | ok xe =>
      obtain ⟨x, e'⟩ := xe
      rw [hx] at h
      have hbd := attrX_bd (by omega) hx
      have := openGo_bd f (l ++ [x]) e' l' em e hbd.2.1 h
      omega
theorem openX_bdd {f : Nat} {s : List UInt8} {ca e : Nat} {t : XT} (ha : ca < s.length) (h : openX f s ca = .ok (t, e)) : ca < e ∧ e ≤ s.length := by
  unfold openX at h
  simp only [] at h
  have hle := nameX_le (s.drop (ca + 1))
  rw [List.length_drop] at hle
  by_cases h0 : nameX (s.drop (ca + 1)) = 0
  · rw [if_pos h0] at h; cases h
  rw [if_neg h0] at h
  cases hg : openGo s ca f [] (ca + 1 + nameX (s.drop (ca + 1))) with
  | none => rw [hg] at h; cases h
  | bad e => rw [hg] at h; cases h
  | ok r =>
    obtain ⟨l, em, e'⟩ := r
    rw [hg] at h
    cases h
    have := openGo_bd f [] _ l em e (by omega) hg
    omega
theorem closeX_bdd {s : List UInt8} {ca e : Nat} {t : XT} (h : closeX s ca = .ok (t, e)) : ca < e ∧ e ≤ s.length := by
  unfold closeX at h
  simp only [] at h
  by_cases h0 : nameX (s.drop (ca + 2)) = 0 ∨ s[ca + 2 + nameX (s.drop (ca + 2)) + blanksX (s.drop (ca + 2 + nameX (s.drop (ca + 2))))]? ≠ some 62
  · rw [if_pos h0] at h; cases h
  rw [if_neg h0] at h
  have h2s : s[ca + 2 + nameX (s.drop (ca + 2)) + blanksX (s.drop (ca + 2 + nameX (s.drop (ca + 2))))]? = some 62 := Classical.byContradiction fun e => h0 (.inr e)
  have hlt := (List.getElem?_eq_some_iff.1 h2s).1
  cases h
  omega
end Go.Proofs.Ytajnpmhgldfgfaa
namespace Go.Proofs.Ytajnpmhgldfgfaa
open Go.RowKit
set_option linter.unusedVariables false

theorem endX_gt {s : List UInt8} {a : Nat} (ha : a < s.length) (h : (s.drop a)[0]? ≠ some 60) : a < endX s a := by
  unfold endX
  rcases indexByte_bd (s.drop a) 60 with e | ⟨k, e, hk, hc⟩
  · rw [if_pos (by omega)]; exact ha
  · rw [if_neg (by omega), e]
    have : k ≠ 0 := fun h0 => h (by rw [← h0]; exact hc)
    simp
    omega
theorem rest_head {s : List UInt8} {a : Nat} (p z : List UInt8) (ha : a < s.length) : ((p ++ s ++ 60 :: z).drop (a + p.length))[0]? = (s.drop a)[0]? := by
  rw [mid_drop p s _ (by omega), List.getElem?_append_left (by rw [List.length_drop]; omega)]
theorem next_app {f : Nat} {s : List UInt8} {c c1 c' : XS} {pre : List XT} (p z : List UInt8) (hl : c.place < s.length) (hq : Lib.hasPrefix s [60, 63] = false ∨ p.length = 0) (h : nextF f s c = .ok c1) (hs : Sh p.length pre c c') :
    ∃ c1', nextF f (p ++ s ++ 60 :: z) c' = .ok c1' ∧ Sh p.length pre c1 c1' ∧ c.place < c1.place ∧ c1.place ≤ s.length := by
  have hp := hs.1
  have hr := rest_head p z hl
  have hne : s.drop c.place ≠ [] := fun e => by have := congrArg List.length e; rw [List.length_drop] at this; simp at this; omega
  unfold nextF at h ⊢
  simp only [] at h ⊢
  rw [hp, hr]
  by_cases h0 : (s.drop c.place)[0]? ≠ some 60
  · rw [if_pos h0] at h ⊢
    have hb := endX_bd s c.place (by omega)
    have hgt := endX_gt hl h0
    have hseg : ((p ++ s ++ 60 :: z).drop (c.place + p.length)).take (endX s c.place + p.length - (c.place + p.length)) = (s.drop c.place).take (endX s c.place - c.place) := by
      rw [mid_drop p s _ (by omega), show endX s c.place + p.length - (c.place + p.length) = endX s c.place - c.place by omega, List.take_append_of_le_length (by rw [List.length_drop]; omega)]
    rw [endX_app p z (by omega), hseg]
    cases hw : wordsX f ((s.drop c.place).take (endX s c.place - c.place)) c.place [] with
    | none => rw [hw] at h; cases h
    | bad e => rw [hw] at h; cases h
    | ok x =>
      rw [hw] at h
      rw [wordsX_at f _ _ (c.place + p.length) _ x hw]
      cases h
      refine ⟨_, rfl, ?_, hgt, hb.2⟩
      have := hs.add x (endX s c.place)
      rw [hp] at this
      exact this
  rw [if_neg h0] at h ⊢
  have hcd : Lib.hasPrefix ((p ++ s ++ 60 :: z).drop (c.place + p.length)) cdataB = Lib.hasPrefix (s.drop c.place) cdataB := by
    rw [mid_drop p s _ (by omega)]; exact hp_app1 z (by decide) hne
  have hrm : Lib.hasPrefix ((p ++ s ++ 60 :: z).drop (c.place + p.length)) remarkB = Lib.hasPrefix (s.drop c.place) remarkB := by
    rw [mid_drop p s _ (by omega)]; exact hp_app1 z (by decide) hne
  have hor : Lib.hasPrefix ((p ++ s ++ 60 :: z).drop (c.place + p.length)) [60, 63] = Lib.hasPrefix (s.drop c.place) [60, 63] := by
    rw [mid_drop p s _ (by omega)]; exact hp_app1 z (by decide) hne
  have hdc : Lib.hasPrefix ((p ++ s ++ 60 :: z).drop (c.place + p.length)) [60, 33] = Lib.hasPrefix (s.drop c.place) [60, 33] := by
    rw [mid_drop p s _ (by omega)]; exact hp_app1 z (by decide) hne
  have hcl : Lib.hasPrefix ((p ++ s ++ 60 :: z).drop (c.place + p.length)) [60, 47] = Lib.hasPrefix (s.drop c.place) [60, 47] := by
    rw [mid_drop p s _ (by omega)]; exact hp_app1 z (by decide) hne
  rw [hcd, hrm, hor, hdc, hcl]
  by_cases h1 : Lib.hasPrefix (s.drop c.place) cdataB = true
  · rw [if_pos h1] at h ⊢
    have hlen := hp_len h1
    rw [List.length_drop] at hlen
    cases hw : rawX s c.place with
    | none => rw [hw] at h; cases h
    | bad e => rw [hw] at h; cases h
    | ok xe =>
      obtain ⟨x, e⟩ := xe
      rw [hw] at h
      obtain ⟨g1, g2, g3⟩ := rawX_app p z (by have : cdataB.length = 9 := rfl; omega) hw
      rw [g1]
      cases h
      refine ⟨_, rfl, ?_, g2, g3⟩
      have := hs.add x e
      rw [hp] at this
      exact this
  rw [if_neg h1] at h ⊢
  by_cases h2 : Lib.hasPrefix (s.drop c.place) remarkB = true
  · rw [if_pos h2] at h ⊢
    have hlen := hp_len h2
    rw [List.length_drop] at hlen
    cases hw : skipX s c.place with
    | none => rw [hw] at h; cases h
    | bad e => rw [hw] at h; cases h
    | ok e =>
      rw [hw] at h
      obtain ⟨g1, g2, g3⟩ := skipX_app p z (by have : remarkB.length = 4 := rfl; omega) hw
      rw [g1]
      cases h
      exact ⟨_, rfl, ⟨rfl, hs.2.1, hs.2.2.1, hs.2.2.2⟩, g2, g3⟩
  rw [if_neg h2] at h ⊢
  by_cases h3 : Lib.hasPrefix (s.drop c.place) [60, 63] = true
  · rw [if_pos h3] at h ⊢
    have hlen := hp_len h3
    rw [List.length_drop] at hlen
    simp only [List.length_cons, List.length_nil] at hlen
    have hpos : 0 < c.place ∨ p.length = 0 := by
      rcases hq with hq | hq
      · refine .inl (Nat.pos_of_ne_zero fun e => ?_)
        rw [e, List.drop_zero, hq] at h3
        cases h3
      · exact .inr hq
    cases hw : orderX s c.place with
    | none => rw [hw] at h; cases h
    | bad e => rw [hw] at h; cases h
    | ok e =>
      rw [hw] at h
      obtain ⟨g1, g2, g3⟩ := orderX_app p z (by omega) hpos hw
      rw [g1]
      cases h
      exact ⟨_, rfl, ⟨rfl, hs.2.1, hs.2.2.1, hs.2.2.2⟩, g2, g3⟩
  rw [if_neg h3] at h ⊢
  by_cases h4 : Lib.hasPrefix (s.drop c.place) [60, 33] = true
  · rw [if_pos h4] at h; cases h
  rw [if_neg h4] at h ⊢
  by_cases h5 : Lib.hasPrefix (s.drop c.place) [60, 47] = true
  · rw [if_pos h5] at h ⊢
    have hlen := hp_len h5
    rw [List.length_drop] at hlen
    simp only [List.length_cons, List.length_nil] at hlen
    cases hw : closeX s c.place with
    | none => rw [hw] at h; cases h
    | bad e => rw [hw] at h; cases h
    | ok te =>
      obtain ⟨t, e⟩ := te
      rw [hw] at h
      have g := closeX_bdd hw
      rw [closeX_app p z (by omega) hw]
      cases h
      exact ⟨_, rfl, hs.put t e, g.1, g.2⟩
  rw [if_neg h5] at h ⊢
  cases hw : openX f s c.place with
  | none => rw [hw] at h; cases h
  | bad e => rw [hw] at h; cases h
  | ok te =>
    obtain ⟨t, e⟩ := te
    rw [hw] at h
    have g := openX_bdd hl hw
    rw [openX_app p z hl hw]
    cases h
    exact ⟨_, rfl, hs.put t e, g.1, g.2⟩
/-- Steps of a run. -/
inductive Steps (f : Nat) (s : List UInt8) : XS → XS → Prop where
  | refl (c : XS) : Steps f s c c
  | step (c c1 c2 : XS) : c.place < s.length → nextF f s c = .ok c1 → Steps f s c1 c2 → Steps f s c c2
theorem Steps.trans {f : Nat} {s : List UInt8} {a b c : XS} (h : Steps f s a b) (k : Steps f s b c) : Steps f s a c := by
  induction h with
  | refl _ => exact k
  | step c c1 c2 h1 h2 _ ih => exact .step c c1 _ h1 h2 (ih k)
theorem steps_app {f : Nat} {s : List UInt8} {c c1 : XS} {pre : List XT} (p z : List UInt8) (hq : Lib.hasPrefix s [60, 63] = false ∨ p.length = 0) (h : Steps f s c c1) (hc : c.place ≤ s.length) : ∀ c', Sh p.length pre c c' →
    ∃ c1', Steps f (p ++ s ++ 60 :: z) c' c1' ∧ Sh p.length pre c1 c1' ∧ c1.place ≤ s.length := by
  induction h with
  | refl c => exact fun c' hs => ⟨c', .refl _, hs, hc⟩
  | step c c2 c3 h1 h2 _ ih =>
    intro c' hs
    obtain ⟨d, g1, g2, g3, g4⟩ := next_app p z h1 hq h2 hs
    obtain ⟨e, k1, k2, k3⟩ := ih g4 d g2
    refine ⟨e, .step c' d e ?_ g1 k1, k2, k3⟩
    rw [hs.1]
    simp only [List.length_append, List.length_cons]
    omega
end Go.Proofs.Ytajnpmhgldfgfaa
namespace Go.Proofs.Ytajnpmhgldfgfaa
open Go.RowKit
set_option linter.unusedVariables false

def c0X : XS := ⟨0, [], [], 0⟩
/-- A text's tokens. -/
def Runs (f : Nat) (s : List UInt8) (l : List XT) : Prop := ∃ c, Steps f s c0X c ∧ s.length ≤ c.place ∧ (finX c).out = l
theorem Sh.fin {d : Nat} {pre : List XT} {c c' : XS} (h : Sh d pre c c') : (finX c').out = pre ++ (finX c).out.map (shT d) := by
  obtain ⟨h1, h2, h3, h4⟩ := h
  show (if c'.text = [] then c'.out else c'.out ++ [⟨3, c'.since, [], c'.text, [], false⟩]) = pre ++ (if c.text = [] then c.out else c.out ++ [⟨3, c.since, [], c.text, [], false⟩]).map (shT d)
  rw [h3, h2]
  by_cases ht : c.text = []
  · rw [if_pos ht, if_pos ht]
  · rw [if_neg ht, if_neg ht, h4 ht]; simp [shT]
theorem drop_on {x : List UInt8} {a : Nat} {b : UInt8} {r : List UInt8} (h : x.drop a = b :: r) : x.drop (a + 1) = r := by
  rw [← List.drop_drop, h]; rfl
theorem drop_run {x : List UInt8} {a : Nat} {n r : List UInt8} (h : x.drop a = n ++ r) : x.drop (a + n.length) = r := by
  rw [← List.drop_drop, h, List.drop_left]
theorem blanksX_no {c : UInt8} (r : List UInt8) (h : [32, 9, 10, 13].contains c = false) : blanksX (c :: r) = 0 := by
  unfold blanksX Lib.trimLeftS
  rw [List.dropWhile_cons, if_neg (by rw [h]; decide)]
  omega
theorem nextF_open {f : Nat} {x : List UInt8} {c : XS} {b : UInt8} {r : List UInt8} (hx : x.drop c.place = 60 :: b :: r) (h1 : b ≠ 33) (h2 : b ≠ 63) (h3 : b ≠ 47) {t : XT} {e : Nat} (ho : openX f x c.place = .ok (t, e)) :
    nextF f x c = .ok { finX c with out := (finX c).out ++ [t], place := e } := by
  unfold nextF
  simp only [hx, ho]
  have e1 : Lib.hasPrefix (60 :: b :: r) cdataB = false := by
    simp [Lib.hasPrefix, cdataB, List.isPrefixOf, Ne.symm h1]
  have e2 : Lib.hasPrefix (60 :: b :: r) remarkB = false := by
    simp [Lib.hasPrefix, remarkB, List.isPrefixOf, Ne.symm h1]
  have e3 : Lib.hasPrefix (60 :: b :: r) [60, 63] = false := by
    simp [Lib.hasPrefix, List.isPrefixOf, Ne.symm h2]
  have e4 : Lib.hasPrefix (60 :: b :: r) [60, 33] = false := by
    simp [Lib.hasPrefix, List.isPrefixOf, Ne.symm h1]
  have e5 : Lib.hasPrefix (60 :: b :: r) [60, 47] = false := by
    simp [Lib.hasPrefix, List.isPrefixOf, Ne.symm h3]
  rw [if_neg (by simp), e1, e2, e3, e4, e5]
  simp
theorem nextF_close {f : Nat} {x : List UInt8} {c : XS} {r : List UInt8} (hx : x.drop c.place = 60 :: 47 :: r) {t : XT} {e : Nat} (ho : closeX x c.place = .ok (t, e)) :
    nextF f x c = .ok { finX c with out := (finX c).out ++ [t], place := e } := by
  unfold nextF
  simp only [hx, ho]
  have e1 : Lib.hasPrefix (60 :: 47 :: r) cdataB = false := by
    simp [Lib.hasPrefix, cdataB, List.isPrefixOf]
  have e2 : Lib.hasPrefix (60 :: 47 :: r) remarkB = false := by
    simp [Lib.hasPrefix, remarkB, List.isPrefixOf]
  have e3 : Lib.hasPrefix (60 :: 47 :: r) [60, 63] = false := by
    simp [Lib.hasPrefix, List.isPrefixOf]
  have e4 : Lib.hasPrefix (60 :: 47 :: r) [60, 33] = false := by
    simp [Lib.hasPrefix, List.isPrefixOf]
  have e5 : Lib.hasPrefix (60 :: 47 :: r) [60, 47] = true := by
    simp [Lib.hasPrefix, List.isPrefixOf]
  rw [if_neg (by simp), e1, e2, e3, e4, e5]
  simp
/-- The begin of an element without attributes. -/
theorem open_at {f : Nat} {x : List UInt8} {c : XS} {b : UInt8} {m r : List UInt8} (hx : x.drop c.place = 60 :: b :: (m ++ 62 :: r)) (h1 : b ≠ 33) (h2 : b ≠ 63) (h3 : b ≠ 47) (hn : nameX (b :: m ++ 62 :: r) = m.length + 1) :
    nextF (f + 1) x c = .ok { finX c with out := (finX c).out ++ [⟨1, c.place, b :: m, [], [], false⟩], place := c.place + m.length + 3 } := by
  refine nextF_open hx h1 h2 h3 ?_
  have hd : x.drop (c.place + 1) = (b :: m) ++ 62 :: r := drop_on hx
  have hd2 : x.drop (c.place + 1 + (m.length + 1)) = 62 :: r := drop_run hd
  unfold openX
  simp only [hd, hn]
  rw [if_neg (by omega)]
  unfold openGo
  simp only [hd2, blanksX_no r (c := 62) (by decide), Nat.add_zero]
  rw [if_pos (by simp [Lib.hasPrefix, List.isPrefixOf])]
  simp only []
  rw [show (b :: m ++ 62 :: r).take (m.length + 1) = b :: m from List.take_left (l₁ := b :: m), show c.place + 1 + (m.length + 1) + 1 = c.place + m.length + 3 by omega]
/-- An element that has no more. -/
theorem empty_at {f : Nat} {x : List UInt8} {c : XS} {b : UInt8} {m r : List UInt8} (hx : x.drop c.place = 60 :: b :: (m ++ 47 :: 62 :: r)) (h1 : b ≠ 33) (h2 : b ≠ 63) (h3 : b ≠ 47) (hn : nameX (b :: m ++ 47 :: 62 :: r) = m.length + 1) :
    nextF (f + 1) x c = .ok { finX c with out := (finX c).out ++ [⟨1, c.place, b :: m, [], [], true⟩], place := c.place + m.length + 4 } := by
  refine nextF_open hx h1 h2 h3 ?_
  have hd : x.drop (c.place + 1) = (b :: m) ++ 47 :: 62 :: r := drop_on hx
  have hd2 : x.drop (c.place + 1 + (m.length + 1)) = 47 :: 62 :: r := drop_run hd
  unfold openX
  simp only [hd, hn]
  rw [if_neg (by omega)]
  unfold openGo
  simp only [hd2, blanksX_no (62 :: r) (c := 47) (by decide), Nat.add_zero]
  rw [if_neg (by simp [Lib.hasPrefix, List.isPrefixOf]), if_pos (by simp [Lib.hasPrefix, List.isPrefixOf])]
  simp only []
  rw [show (b :: m ++ 47 :: 62 :: r).take (m.length + 1) = b :: m from List.take_left (l₁ := b :: m), show c.place + 1 + (m.length + 1) + 2 = c.place + m.length + 4 by omega]
/-- The end of an element. -/
theorem close_at {f : Nat} {x : List UInt8} {c : XS} {b : UInt8} {m r : List UInt8} (hx : x.drop c.place = 60 :: 47 :: b :: (m ++ 62 :: r)) (hn : nameX (b :: m ++ 62 :: r) = m.length + 1) :
    nextF f x c = .ok { finX c with out := (finX c).out ++ [⟨2, c.place, b :: m, [], [], false⟩], place := c.place + m.length + 4 } := by
  refine nextF_close hx ?_
  have hd : x.drop (c.place + 2) = (b :: m) ++ 62 :: r := drop_on (drop_on hx)
  have hd2 : x.drop (c.place + 2 + (m.length + 1)) = 62 :: r := drop_run hd
  unfold closeX
  simp only [hd, hn, hd2, blanksX_no r (c := 62) (by decide), Nat.add_zero]
  have hg : x[c.place + 2 + (m.length + 1)]? = some 62 := by
    have : (x.drop (c.place + 2 + (m.length + 1)))[0]? = some 62 := by rw [hd2]; rfl
    rw [List.getElem?_drop] at this
    exact this
  rw [if_neg (by rw [hg]; simp), show (b :: m ++ 62 :: r).take (m.length + 1) = b :: m from List.take_left (l₁ := b :: m), show c.place + 2 + (m.length + 1) + 1 = c.place + m.length + 4 by omega]
/-- A text behind an element's begin, and ahead of something that begins with the sign 60. -/
theorem runs_mid {f : Nat} {s : List UInt8} {l : List XT} {b : UInt8} {m z : List UInt8} (hq : Lib.hasPrefix s [60, 63] = false) (h : Runs (f + 1) s l) (h1 : b ≠ 33) (h2 : b ≠ 63) (h3 : b ≠ 47) (hn : ∀ r, nameX (b :: m ++ 62 :: r) = m.length + 1) :
    ∃ c, Steps (f + 1) (60 :: b :: m ++ [62] ++ s ++ 60 :: z) c0X c ∧ c.place = s.length + m.length + 3 ∧ (finX c).out = ⟨1, 0, b :: m, [], [], false⟩ :: l.map (shT (m.length + 3)) := by
  obtain ⟨c, hs, hp, rfl⟩ := h
  have hlen : (60 :: b :: m ++ [62]).length = m.length + 3 := by simp
  have ho := open_at (f := f) (x := 60 :: b :: m ++ [62] ++ s ++ 60 :: z) (c := c0X) (b := b) (m := m) (r := s ++ 60 :: z) (by show List.drop 0 _ = _; simp) h1 h2 h3 (hn _)
  obtain ⟨d, k1, k2, k3⟩ := steps_app (pre := [⟨1, 0, b :: m, [], [], false⟩]) (60 :: b :: m ++ [62]) z (.inl hq) hs (Nat.zero_le _)
    { finX c0X with out := (finX c0X).out ++ [⟨1, c0X.place, b :: m, [], [], false⟩], place := c0X.place + m.length + 3 } ⟨by rw [hlen]; show 0 + m.length + 3 = 0 + (m.length + 3); omega, rfl, rfl, fun h => absurd rfl h⟩
  refine ⟨d, .step _ _ _ (by show 0 < _; simp) ho k1, ?_, ?_⟩
  · have := k2.1
    rw [hlen] at this
    omega
  · have := k2.fin
    rw [hlen] at this
    exact this
/-- A whole name ahead of a sign that is no part of a name. -/
theorem runesAt_two : ∀ (k : Nat) (a b : List (Nat × Nat)), runesAt k (a ++ b) = runesAt k a ++ runesAt (k + (a.map (·.2)).sum) b
  | k, [], b => by simp [runesAt]
  | k, (r, n) :: t, b => by
    show (k, r) :: runesAt (k + n) (t ++ b) = (k, r) :: (runesAt (k + n) t ++ runesAt (k + (n + (t.map (·.2)).sum)) b)
    rw [runesAt_two (k + n) t b, show k + n + (t.map (·.2)).sum = k + (n + (t.map (·.2)).sum) by omega]
theorem nameX_ahead {n : List UInt8} {c : UInt8} (r : List UInt8) (hc : checkL n = n.length) (hn : nameX n = n.length) (h1 : c.toNat < 128) (h2 : namePartR (c.toNat : Int) = false) : nameX (n ++ c :: r) = n.length := by
  have hk : (List.map (·.2) (runesL n)).sum = n.length := hc
  have ha : allRunes (n ++ c :: r) = allRunes n ++ ((n.length, c.toNat) :: runesAt (n.length + 1) (runesL r)) := by
    unfold allRunes
    rw [runesL_append _ n (c :: r) (Nat.le_refl _) hc, runesAt_two, hk, runesL_ascii _ h1, Nat.zero_add]
    rfl
  refine nameX_stop (pre := allRunes n) (x := (n.length, c.toNat)) ?_ ?_ ?_
  · rw [ha]
    exact ⟨runesAt (n.length + 1) (runesL r), by simp⟩
  · intro q hq
    unfold nameX at hn
    cases hf : (allRunes n).find? (fun p => !namePartR (p.2 : Int) || (p.1 == 0 && !nameStartR (p.2 : Int))) with
    | none => 
      have := List.find?_eq_none.1 hf q hq
      unfold offName
      simpa using this
    | some p =>
      rw [hf] at hn
      have := allRunes_mem (List.mem_of_find?_eq_some hf)
      simp only [] at hn
      omega
  · unfold offName
    simp [h2]
theorem nameX_q (r : List UInt8) : nameX ((113 : UInt8) :: [] ++ 62 :: r) = 1 := nameX_one 62 r (by decide) (by decide) 113 (by decide) (by decide)
/-- A text within an element. -/
theorem runs_wrap {f : Nat} {s : List UInt8} {l : List XT} {b : UInt8} {m : List UInt8} (hq : Lib.hasPrefix s [60, 63] = false) (h : Runs (f + 1) s l) (h1 : b ≠ 33) (h2 : b ≠ 63) (h3 : b ≠ 47) (hn : ∀ r, nameX (b :: m ++ 62 :: r) = m.length + 1) :
    Runs (f + 1) (60 :: b :: m ++ [62] ++ s ++ 60 :: 47 :: b :: m ++ [62]) (⟨1, 0, b :: m, [], [], false⟩ :: l.map (shT (m.length + 3)) ++ [⟨2, s.length + m.length + 3, b :: m, [], [], false⟩]) := by
  have hz : 60 :: b :: m ++ [62] ++ s ++ 60 :: 47 :: b :: m ++ [62] = 60 :: b :: m ++ [62] ++ s ++ 60 :: (47 :: b :: m ++ [62]) := by simp
  rw [hz]
  obtain ⟨c, k1, k2, k3⟩ := runs_mid (z := 47 :: b :: m ++ [62]) hq h h1 h2 h3 hn
  have hl : (60 :: b :: m ++ [62] ++ s).length = s.length + m.length + 3 := by simp; omega
  have hd : (60 :: b :: m ++ [62] ++ s ++ 60 :: (47 :: b :: m ++ [62])).drop c.place = 60 :: 47 :: b :: (m ++ 62 :: []) := by
    rw [k2, ← hl, List.drop_left]; simp
  have hc := close_at (f := f + 1) hd (hn [])
  have hlt : c.place < (60 :: b :: m ++ [62] ++ s ++ 60 :: (47 :: b :: m ++ [62])).length := by
    rw [k2, List.length_append, hl]; simp
  refine ⟨_, k1.trans (.step _ _ _ hlt hc (.refl _)), ?_, ?_⟩
  · show _ ≤ c.place + m.length + 4
    rw [k2, List.length_append, hl]
    simp
    omega
  · show (finX c).out ++ [⟨2, c.place, b :: m, [], [], false⟩] = _
    rw [k3, k2]
/-- A text ahead of something. -/
theorem runs_ahead {f : Nat} {s : List UInt8} {l : List XT} {z : List UInt8} (h : Runs f s l) : ∃ c, Steps f (s ++ 60 :: z) c0X c ∧ c.place = s.length ∧ (finX c).out = l := by
  obtain ⟨c, hs, hp, rfl⟩ := h
  obtain ⟨d, k1, k2, k3⟩ := steps_app (pre := []) [] z (.inr rfl) hs (Nat.zero_le _) c0X ⟨rfl, rfl, rfl, fun h => absurd rfl h⟩
  refine ⟨d, k1, ?_, ?_⟩
  · have := k2.1
    simp only [List.length_nil] at this
    omega
  · rw [k2.fin]
    have : shT (([] : List UInt8).length) = id := by
      funext t
      simp [shT, show shA 0 = id from rfl]
    rw [this]; simp
theorem runs_close {f : Nat} {s : List UInt8} {l : List XT} {b : UInt8} {m : List UInt8} (h : Runs f s l) (hn : ∀ r, nameX (b :: m ++ 62 :: r) = m.length + 1) :
    Runs f (s ++ 60 :: 47 :: b :: m ++ [62]) (l ++ [⟨2, s.length, b :: m, [], [], false⟩]) := by
  obtain ⟨c, k1, k2, rfl⟩ := runs_ahead (z := 47 :: b :: m ++ [62]) h
  have hz : s ++ 60 :: 47 :: b :: m ++ [62] = s ++ 60 :: (47 :: b :: m ++ [62]) := by simp
  rw [hz]
  have hd : (s ++ 60 :: (47 :: b :: m ++ [62])).drop c.place = 60 :: 47 :: b :: (m ++ 62 :: []) := by
    rw [k2, List.drop_left]; simp
  have hc := close_at (f := f) hd (hn [])
  refine ⟨_, k1.trans (.step _ _ _ (by rw [k2]; simp) hc (.refl _)), ?_, ?_⟩
  · show _ ≤ c.place + m.length + 4
    rw [k2]; simp; omega
  · show (finX c).out ++ [⟨2, c.place, b :: m, [], [], false⟩] = _
    rw [k2]
theorem runs_more {f : Nat} {s : List UInt8} {l : List XT} {b : UInt8} {m : List UInt8} (h : Runs (f + 1) s l) (h1 : b ≠ 33) (h2 : b ≠ 63) (h3 : b ≠ 47) (hn : ∀ r, nameX (b :: m ++ 47 :: 62 :: r) = m.length + 1) :
    Runs (f + 1) (s ++ 60 :: b :: m ++ [47, 62]) (l ++ [⟨1, s.length, b :: m, [], [], true⟩]) := by
  obtain ⟨c, k1, k2, rfl⟩ := runs_ahead (z := b :: m ++ [47, 62]) h
  have hz : s ++ 60 :: b :: m ++ [47, 62] = s ++ 60 :: (b :: m ++ [47, 62]) := by simp
  rw [hz]
  have hd : (s ++ 60 :: (b :: m ++ [47, 62])).drop c.place = 60 :: b :: (m ++ 47 :: 62 :: []) := by
    rw [k2, List.drop_left]; simp
  have hc := empty_at (f := f) hd h1 h2 h3 (hn [])
  refine ⟨_, k1.trans (.step _ _ _ (by rw [k2]; simp) hc (.refl _)), ?_, ?_⟩
  · show _ ≤ c.place + m.length + 4
    rw [k2]; simp; omega
  · show (finX c).out ++ [⟨1, c.place, b :: m, [], [], true⟩] = _
    rw [k2]
end Go.Proofs.Ytajnpmhgldfgfaa
namespace Go.Proofs.Ytajnpmhgldfgfaa
open Go.RowKit
set_option linter.unusedVariables false

theorem pre_drop (p s : List UInt8) (a : Nat) : (p ++ s).drop (a + p.length) = s.drop a := by
  rw [Nat.add_comm, List.drop_append, List.drop_eq_nil_of_le (by omega), List.nil_append, Nat.add_sub_cancel_left]
theorem pre_at (p s : List UInt8) (a : Nat) : (p ++ s)[a + p.length]? = s[a]? := by
  rw [List.getElem?_append_right (by omega), Nat.add_sub_cancel]
theorem valueX_at (ca ca' : Nat) (q : UInt8) (d : Nat) : ∀ (f : Nat) (l : List UInt8) (a : Nat) (acc v : List UInt8) (e : Nat),
    valueX ca q f l a acc = .ok (v, e) → valueX ca' q f l (a + d) acc = .ok (v, e + d)
  | 0, l, a, acc, v, e, h => by cases h
  | f + 1, [], a, acc, v, e, h => by cases h
  | f + 1, c :: t, a, acc, v, e, h => by
    unfold valueX at h ⊢
    simp only at h ⊢
    by_cases h1 : c = q
    · rw [if_pos h1] at h ⊢
      cases h
      rw [show a + d + 1 = a + 1 + d by omega]
    rw [if_neg h1] at h ⊢
    by_cases h2 : c = 60
    · rw [if_pos h2] at h; cases h
    rw [if_neg h2] at h ⊢
    by_cases h3 : c = 38
    · rw [if_pos h3] at h ⊢
      cases hr : refX (c :: t) with
      | none => rw [hr] at h; cases h
      | some xn =>
        obtain ⟨x, n⟩ := xn
        rw [hr] at h
        simp only at h ⊢
        rw [show a + d + n = a + n + d by omega]
        exact valueX_at ca ca' q d f _ _ _ v e h
    rw [if_neg h3] at h ⊢
    by_cases h4 : c = 13 ∧ Lib.hasPrefix (c :: t) [13, 10] = true
    · rw [if_pos h4] at h ⊢
      rw [show a + d + 2 = a + 2 + d by omega]
      exact valueX_at ca ca' q d f _ _ _ v e h
    rw [if_neg h4] at h ⊢
    by_cases h5 : c = 13 ∨ c = 10 ∨ c = 9
    · rw [if_pos h5] at h ⊢
      rw [show a + d + 1 = a + 1 + d by omega]
      exact valueX_at ca ca' q d f _ _ _ v e h
    · rw [if_neg h5] at h ⊢
      rw [show a + d + 1 = a + 1 + d by omega]
      exact valueX_at ca ca' q d f _ _ _ v e h
theorem attrX_pre {f : Nat} {s : List UInt8} {ca : Nat} {l : List XA} {a e : Nat} {x : XA} (p : List UInt8) (h : attrX f s ca l a = .ok (x, e)) :
    attrX f (p ++ s) (ca + p.length) (l.map (shA p.length)) (a + p.length) = .ok (shA p.length x, e + p.length) := by
  unfold attrX at h ⊢
  simp only [] at h ⊢
  rw [pre_drop]
  obtain ⟨n, hn⟩ : ∃ n, nameX (s.drop a) = n := ⟨_, rfl⟩
  rw [hn] at h ⊢
  have hany : (l.map (shA p.length)).any (fun x => decide (x.name = (s.drop a).take n)) = l.any (fun x => decide (x.name = (s.drop a).take n)) := by
    rw [List.any_map]; rfl
  rw [hany]
  by_cases h1 : l.any (fun x => decide (x.name = (s.drop a).take n)) = true
  · rw [if_pos h1] at h; cases h
  rw [if_neg h1] at h ⊢
  rw [show a + p.length + n = a + n + p.length by omega, pre_drop]
  obtain ⟨k, hk⟩ : ∃ k, blanksX (s.drop (a + n)) = k := ⟨_, rfl⟩
  rw [hk] at h ⊢
  rw [show a + n + p.length + k = a + n + k + p.length by omega, pre_at]
  by_cases h2 : n = 0 ∨ s[a + n + k]? ≠ some 61
  · rw [if_pos h2] at h; cases h
  rw [if_neg h2] at h ⊢
  rw [show a + n + k + p.length + 1 = a + n + k + 1 + p.length by omega, pre_drop]
  obtain ⟨j, hj⟩ : ∃ j, blanksX (s.drop (a + n + k + 1)) = j := ⟨_, rfl⟩
  rw [hj] at h ⊢
  rw [show a + n + k + 1 + p.length + j = a + n + k + 1 + j + p.length by omega, pre_at]
  cases h4 : s[a + n + k + 1 + j]? with
  | none => rw [h4] at h; cases h
  | some q =>
    rw [h4] at h
    simp only at h ⊢
    by_cases hq : q = 34 ∨ q = 39
    · rw [if_pos hq] at h ⊢
      cases hv : valueX ca q f (s.drop (a + n + k + 1 + j + 1)) (a + n + k + 1 + j + 1) [] with
      | none => rw [hv] at h; cases h
      | bad e => rw [hv] at h; cases h
      | ok ve =>
        obtain ⟨v, e'⟩ := ve
        rw [hv] at h
        have := valueX_at ca (ca + p.length) q p.length f _ _ _ _ _ hv
        rw [show a + n + k + 1 + j + p.length + 1 = a + n + k + 1 + j + 1 + p.length by omega, pre_drop, this]
        simp only at h ⊢
        cases h
        rfl
    · rw [if_neg hq] at h; cases h
theorem openGo_pre {s : List UInt8} {ca : Nat} (p : List UInt8) : ∀ (f : Nat) (l : List XA) (a : Nat) (l' : List XA) (em : Bool) (e : Nat), openGo s ca f l a = .ok (l', em, e) →
    openGo (p ++ s) (ca + p.length) f (l.map (shA p.length)) (a + p.length) = .ok (l'.map (shA p.length), em, e + p.length)
  | 0, l, a, l', em, e, h => by cases h
  | f + 1, l, a, l', em, e, h => by
    unfold openGo at h ⊢
    simp only [] at h ⊢
    rw [pre_drop]
    obtain ⟨k, hk⟩ : ∃ k, blanksX (s.drop a) = k := ⟨_, rfl⟩
    rw [hk] at h ⊢
    rw [show a + p.length + k = a + k + p.length by omega, pre_drop]
    by_cases h1 : Lib.hasPrefix (s.drop (a + k)) [62] = true
    · rw [if_pos h1] at h ⊢
      cases h
      rw [show a + k + p.length + 1 = a + k + 1 + p.length by omega]
    rw [if_neg h1] at h ⊢
    by_cases h2 : Lib.hasPrefix (s.drop (a + k)) [47, 62] = true
    · rw [if_pos h2] at h ⊢
      cases h
      rw [show a + k + p.length + 2 = a + k + 2 + p.length by omega]
    rw [if_neg h2] at h ⊢
    by_cases h3 : k = 0
    · rw [if_pos h3] at h; cases h
    rw [if_neg h3] at h ⊢
    cases hx : attrX f s ca l (a + k) with
    | none => rw [hx] at h; cases h
    | bad e => rw [hx] at h; cases h
    | ok xe =>
      obtain ⟨x, e'⟩ := xe
      rw [hx] at h
      rw [attrX_pre p hx]
      simp only at h ⊢
      have := openGo_pre p f (l ++ [x]) e' l' em e h
      rw [List.map_append] at this
      exact this
theorem openX_pre {f : Nat} {s : List UInt8} {ca e : Nat} {t : XT} (p : List UInt8) (h : openX f s ca = .ok (t, e)) :
    openX f (p ++ s) (ca + p.length) = .ok (shT p.length t, e + p.length) := by
  unfold openX at h ⊢
  simp only [] at h ⊢
  rw [show ca + p.length + 1 = ca + 1 + p.length by omega, pre_drop]
  obtain ⟨n, hn⟩ : ∃ n, nameX (s.drop (ca + 1)) = n := ⟨_, rfl⟩
  rw [hn] at h ⊢
  by_cases h0 : n = 0
  · rw [if_pos h0] at h; cases h
  rw [if_neg h0] at h ⊢
  cases hg : openGo s ca f [] (ca + 1 + n) with
  | none => rw [hg] at h; cases h
  | bad e => rw [hg] at h; cases h
  | ok r =>
    obtain ⟨l, em, e'⟩ := r
    rw [hg] at h
    have hgo := openGo_pre p f [] _ l em e' hg
    rw [List.map_nil] at hgo
    rw [show ca + 1 + p.length + n = ca + 1 + n + p.length by omega, hgo]
    simp only at h ⊢
    cases h
    rfl
theorem closeX_pre {s : List UInt8} {ca e : Nat} {t : XT} (p : List UInt8) (h : closeX s ca = .ok (t, e)) :
    closeX (p ++ s) (ca + p.length) = .ok (shT p.length t, e + p.length) := by
  unfold closeX at h ⊢
  simp only [] at h ⊢
  rw [show ca + p.length + 2 = ca + 2 + p.length by omega, pre_drop]
  obtain ⟨n, hn⟩ : ∃ n, nameX (s.drop (ca + 2)) = n := ⟨_, rfl⟩
  rw [hn] at h ⊢
  rw [show ca + 2 + p.length + n = ca + 2 + n + p.length by omega, pre_drop]
  obtain ⟨k, hk⟩ : ∃ k, blanksX (s.drop (ca + 2 + n)) = k := ⟨_, rfl⟩
  rw [hk] at h ⊢
  rw [show ca + 2 + n + p.length + k = ca + 2 + n + k + p.length by omega, pre_at]
  by_cases h0 : n = 0 ∨ s[ca + 2 + n + k]? ≠ some 62
  · rw [if_pos h0] at h; cases h
  rw [if_neg h0] at h ⊢
  cases h
  rw [show ca + 2 + n + k + p.length + 1 = ca + 2 + n + k + 1 + p.length by omega]
  rfl
theorem rawX_pre {s : List UInt8} {ca e : Nat} {x : List UInt8} (p : List UInt8) (h : rawX s ca = .ok (x, e)) : rawX (p ++ s) (ca + p.length) = .ok (x, e + p.length) := by
  unfold rawX at h ⊢
  rw [show ca + p.length + 9 = ca + 9 + p.length by omega, pre_drop]
  by_cases h0 : Lib.index (s.drop (ca + 9)) [93, 93, 62] < 0
  · rw [if_pos h0] at h; cases h
  rw [if_neg h0] at h ⊢
  cases h
  congr 2
  omega
theorem skipX_pre {s : List UInt8} {ca e : Nat} (p : List UInt8) (h : skipX s ca = .ok e) : skipX (p ++ s) (ca + p.length) = .ok (e + p.length) := by
  unfold skipX at h ⊢
  rw [show ca + p.length + 4 = ca + 4 + p.length by omega, pre_drop]
  obtain ⟨n, hn⟩ : ∃ n, Lib.index (s.drop (ca + 4)) [45, 45] = n := ⟨_, rfl⟩
  rw [hn] at h ⊢
  rw [show ca + 4 + p.length + n.toNat = ca + 4 + n.toNat + p.length by omega, pre_drop]
  by_cases h0 : n < 0 ∨ ca + 4 + n.toNat + 2 = s.length
  · rw [if_pos h0] at h; cases h
  rw [if_neg h0] at h
  rw [if_neg (by rw [List.length_append]; omega)]
  by_cases h1 : Lib.hasPrefix (s.drop (ca + 4 + n.toNat)) [45, 45, 62] = false
  · rw [if_pos h1] at h; cases h
  rw [if_neg h1] at h ⊢
  cases h
  congr 1
  omega
theorem orderX_pre {s : List UInt8} {ca e : Nat} (p : List UInt8) (h0 : 0 < ca) (h : orderX s ca = .ok e) : orderX (p ++ s) (ca + p.length) = .ok (e + p.length) := by
  unfold orderX at h ⊢
  simp only [] at h ⊢
  rw [show ca + p.length + 2 = ca + 2 + p.length by omega, pre_drop]
  obtain ⟨k, hk⟩ : ∃ k, nameX (s.drop (ca + 2)) = k := ⟨_, rfl⟩
  rw [hk] at h ⊢
  rw [show ca + 2 + p.length + k = ca + 2 + k + p.length by omega, pre_drop]
  by_cases hc : k = 0 ∨ Lib.index (s.drop (ca + 2 + k)) [63, 62] < 0 ∨ (foldXml ((s.drop (ca + 2)).take k) = true ∧ 0 < ca)
  · rw [if_pos hc] at h; cases h
  rw [if_neg hc] at h
  rw [if_neg (by rintro (h | h | h); exact hc (.inl h); exact hc (.inr (.inl h)); exact hc (.inr (.inr ⟨h.1, h0⟩)))]
  cases h
  congr 1
  omega
theorem endX_pre (p s : List UInt8) (a : Nat) : endX (p ++ s) (a + p.length) = endX s a + p.length := by
  unfold endX
  rw [pre_drop]
  by_cases h : Lib.indexByte (s.drop a) 60 < 0
  · rw [if_pos h, if_pos h, List.length_append]; omega
  · rw [if_neg h, if_neg h]; omega
theorem next_pre {f : Nat} {s : List UInt8} {c c1 c' : XS} {pre : List XT} (p : List UInt8) (hl : c.place < s.length) (h : nextF f s c = .ok c1) (hs : Sh p.length pre c c') :
    (∃ c1', nextF f (p ++ s) c' = .ok c1' ∧ Sh p.length pre c1 c1') ∨ (c.place = 0 ∧ Lib.hasPrefix s [60, 63] = true ∧ nextF f (p ++ s) c' = .bad ⟨11, c'.place, wOrder⟩) := by
  have hp := hs.1
  unfold nextF at h ⊢
  simp only [] at h ⊢
  rw [hp, pre_drop]
  by_cases h0 : (s.drop c.place)[0]? ≠ some 60
  · rw [if_pos h0] at h ⊢
    left
    rw [endX_pre, show endX s c.place + p.length - (c.place + p.length) = endX s c.place - c.place by omega]
    cases hw : wordsX f ((s.drop c.place).take (endX s c.place - c.place)) c.place [] with
    | none => rw [hw] at h; cases h
    | bad e => rw [hw] at h; cases h
    | ok x =>
      rw [hw] at h
      rw [wordsX_at f _ _ (c.place + p.length) _ x hw]
      cases h
      refine ⟨_, rfl, ?_⟩
      have := hs.add x (endX s c.place)
      rw [hp] at this
      exact this
  rw [if_neg h0] at h ⊢
  by_cases h1 : Lib.hasPrefix (s.drop c.place) cdataB = true
  · rw [if_pos h1] at h ⊢
    left
    cases hw : rawX s c.place with
    | none => rw [hw] at h; cases h
    | bad e => rw [hw] at h; cases h
    | ok xe =>
      obtain ⟨x, e⟩ := xe
      rw [hw] at h
      rw [rawX_pre p hw]
      cases h
      refine ⟨_, rfl, ?_⟩
      have := hs.add x e
      rw [hp] at this
      exact this
  rw [if_neg h1] at h ⊢
  by_cases h2 : Lib.hasPrefix (s.drop c.place) remarkB = true
  · rw [if_pos h2] at h ⊢
    left
    cases hw : skipX s c.place with
    | none => rw [hw] at h; cases h
    | bad e => rw [hw] at h; cases h
    | ok e =>
      rw [hw] at h
      rw [skipX_pre p hw]
      cases h
      exact ⟨_, rfl, ⟨rfl, hs.2.1, hs.2.2.1, hs.2.2.2⟩⟩
  rw [if_neg h2] at h ⊢
  by_cases h3 : Lib.hasPrefix (s.drop c.place) [60, 63] = true
  · rw [if_pos h3] at h ⊢
    cases hw : orderX s c.place with
    | none => rw [hw] at h; cases h
    | bad e => rw [hw] at h; cases h
    | ok e =>
      rw [hw] at h
      cases h
      rcases Nat.eq_zero_or_pos c.place with hz | hz
      · by_cases hpp : p.length = 0
        · obtain rfl := List.eq_nil_of_length_eq_zero hpp
          left
          simp only [List.nil_append, List.length_nil, Nat.add_zero]
          rw [hw]
          exact ⟨_, rfl, ⟨rfl, hs.2.1, hs.2.2.1, hs.2.2.2⟩⟩
        · unfold orderX at hw ⊢
          simp only [] at hw ⊢
          rw [show c.place + p.length + 2 = c.place + 2 + p.length by omega, pre_drop]
          obtain ⟨k, hk⟩ : ∃ k, nameX (s.drop (c.place + 2)) = k := ⟨_, rfl⟩
          rw [hk] at hw ⊢
          rw [show c.place + 2 + p.length + k = c.place + 2 + k + p.length by omega, pre_drop]
          by_cases hc : k = 0 ∨ Lib.index (s.drop (c.place + 2 + k)) [63, 62] < 0 ∨ (foldXml ((s.drop (c.place + 2)).take k) = true ∧ 0 < c.place)
          · rw [if_pos hc] at hw; cases hw
          rw [if_neg hc] at hw
          cases hw
          by_cases hf : foldXml ((s.drop (c.place + 2)).take k) = true
          · right
            rw [hz, List.drop_zero] at h3
            refine ⟨hz, h3, ?_⟩
            rw [if_pos (.inr (.inr ⟨hf, by omega⟩))]
          · left
            rw [if_neg (by rintro (h | h | h); exact hc (.inl h); exact hc (.inr (.inl h)); exact hf h.1)]
            refine ⟨_, rfl, ⟨?_, hs.2.1, hs.2.2.1, hs.2.2.2⟩⟩
            show c.place + 2 + k + p.length + (Lib.index (s.drop (c.place + 2 + k)) [63, 62]).toNat + 2 = c.place + 2 + k + (Lib.index (s.drop (c.place + 2 + k)) [63, 62]).toNat + 2 + p.length
            omega
      · left
        rw [orderX_pre p hz hw]
        exact ⟨_, rfl, ⟨rfl, hs.2.1, hs.2.2.1, hs.2.2.2⟩⟩
  rw [if_neg h3] at h ⊢
  left
  by_cases h4 : Lib.hasPrefix (s.drop c.place) [60, 33] = true
  · rw [if_pos h4] at h; cases h
  rw [if_neg h4] at h ⊢
  by_cases h5 : Lib.hasPrefix (s.drop c.place) [60, 47] = true
  · rw [if_pos h5] at h ⊢
    cases hw : closeX s c.place with
    | none => rw [hw] at h; cases h
    | bad e => rw [hw] at h; cases h
    | ok te =>
      obtain ⟨t, e⟩ := te
      rw [hw] at h
      rw [closeX_pre p hw]
      cases h
      exact ⟨_, rfl, hs.put t e⟩
  rw [if_neg h5] at h ⊢
  cases hw : openX f s c.place with
  | none => rw [hw] at h; cases h
  | bad e => rw [hw] at h; cases h
  | ok te =>
    obtain ⟨t, e⟩ := te
    rw [hw] at h
    rw [openX_pre p hw]
    cases h
    exact ⟨_, rfl, hs.put t e⟩
/-- Either all steps are the same, or one of them is refused as an order. -/
theorem steps_pre {f : Nat} {s : List UInt8} {c c1 : XS} {pre : List XT} (p : List UInt8) (h : Steps f s c c1) : ∀ c', Sh p.length pre c c' →
    (∃ c1', Steps f (p ++ s) c' c1' ∧ Sh p.length pre c1 c1') ∨ (∃ d, Steps f (p ++ s) c' d ∧ d.place < (p ++ s).length ∧ nextF f (p ++ s) d = .bad ⟨11, d.place, wOrder⟩) := by
  induction h with
  | refl c => exact fun c' hs => .inl ⟨c', .refl _, hs⟩
  | step c c2 c3 h1 h2 _ ih =>
    intro c' hs
    have hlt : c'.place < (p ++ s).length := by rw [hs.1, List.length_append]; omega
    rcases next_pre p h1 h2 hs with ⟨d, g1, g2⟩ | ⟨_, _, g⟩
    · rcases ih d g2 with ⟨e, k1, k2⟩ | ⟨e, k1, k2, k3⟩
      · exact .inl ⟨e, .step c' d e hlt g1 k1, k2⟩
      · exact .inr ⟨e, .step c' d e hlt g1 k1, k2, k3⟩
    · exact .inr ⟨c', .refl _, hlt, g⟩
/-- What a text is refused for. -/
def Fails (f : Nat) (s : List UInt8) (e : XE) : Prop := ∃ c, Steps f s c0X c ∧ c.place < s.length ∧ nextF f s c = .bad e
/-- A text behind an element's begin. -/
theorem runs_open {f : Nat} {s : List UInt8} {l : List XT} {b : UInt8} {m : List UInt8} (h : Runs (f + 1) s l) (h1 : b ≠ 33) (h2 : b ≠ 63) (h3 : b ≠ 47) (hn : ∀ r, nameX (b :: m ++ 62 :: r) = m.length + 1) :
    Runs (f + 1) (60 :: b :: m ++ [62] ++ s) (⟨1, 0, b :: m, [], [], false⟩ :: l.map (shT (m.length + 3))) ∨ ∃ a, Fails (f + 1) (60 :: b :: m ++ [62] ++ s) ⟨11, a, wOrder⟩ := by
  obtain ⟨c, hs, hp, rfl⟩ := h
  have hlen : (60 :: b :: m ++ [62]).length = m.length + 3 := by simp
  have ho := open_at (f := f) (x := 60 :: b :: m ++ [62] ++ s) (c := c0X) (b := b) (m := m) (r := s) (by show List.drop 0 _ = _; simp) h1 h2 h3 (hn _)
  have hlt : c0X.place < (60 :: b :: m ++ [62] ++ s).length := by show 0 < _; simp
  rcases steps_pre (pre := [⟨1, 0, b :: m, [], [], false⟩]) (60 :: b :: m ++ [62]) hs { finX c0X with out := (finX c0X).out ++ [⟨1, c0X.place, b :: m, [], [], false⟩], place := c0X.place + m.length + 3 } ⟨by rw [hlen]; show 0 + m.length + 3 = 0 + (m.length + 3); omega, rfl, rfl, fun h => absurd rfl h⟩ with ⟨d, k1, k2⟩ | ⟨d, k1, k2, k3⟩
  · left
    refine ⟨d, .step _ _ _ hlt ho k1, ?_, ?_⟩
    · have := k2.1
      rw [hlen] at this
      rw [List.length_append, hlen]
      omega
    · have := k2.fin
      rw [hlen] at this
      exact this
  · exact .inr ⟨_, d, .step _ _ _ hlt ho k1, k2, k3⟩
end Go.Proofs.Ytajnpmhgldfgfaa
namespace Go.Proofs.Ytajnpmhgldfgfaa
open Go.RowKit
set_option linter.unusedVariables false

/-- An element as it is told. -/
structure XL where
  name : List UInt8
  place : Nat
  up : Int
  attrs : List XA
  kids : List Nat
  text : List UInt8
/-- What makes a document: its elements, those that are open (the innermost first), and how deep it went. -/
structure XB where
  elems : List XL
  opened : List Nat
  most : Nat
def wRoot : List UInt8 := [114, 111, 111, 116]
def wElements : List UInt8 := [101, 108, 101, 109, 101, 110, 116, 115]
def spacesX (l : List UInt8) : Bool := (allRunes l).all fun p => spaceR (p.2 : Int)
def addKid (n : Nat) (e : XL) : XL := { e with kids := e.kids ++ [n] }
def addText (x : List UInt8) (e : XL) : XL := { e with text := e.text ++ x }
/-- The element at a place is another one. -/
def atX (g : XL → XL) : List XL → Nat → List XL
  | [], _ => []
  | e :: l, 0 => g e :: l
  | e :: l, k + 1 => e :: atX g l k
theorem atX_len (g : XL → XL) : ∀ (l : List XL) (k : Nat), (atX g l k).length = l.length
  | [], _ => rfl
  | e :: l, 0 => rfl
  | e :: l, k + 1 => by simp [atX, atX_len g l k]
theorem atX_map {g h m : XL → XL} (hc : ∀ e, h (m e) = m (g e)) : ∀ (l : List XL) (k : Nat), atX h (l.map m) k = (atX g l k).map m
  | [], _ => rfl
  | e :: l, 0 => by simp [atX, hc]
  | e :: l, k + 1 => by simp [atX, atX_map hc l k]
theorem atX_nil {g : XL → XL} {l : List XL} {k : Nat} : atX g l k = [] ↔ l = [] := by
  cases l with
  | nil => simp [atX]
  | cons e l => cases k <;> simp [atX]
theorem atX_name {g : XL → XL} (hg : ∀ e, (g e).name = e.name) : ∀ (l : List XL) (k j : Nat), ((atX g l k)[j]?).map (·.name) = (l[j]?).map (·.name)
  | [], _, _ => rfl
  | e :: l, 0, 0 => by simp [atX, hg]
  | e :: l, 0, j + 1 => by simp [atX]
  | e :: l, k + 1, 0 => by simp [atX]
  | e :: l, k + 1, j + 1 => by simpa [atX] using atX_name hg l k j
def upX (o : List Nat) : Int := match o with | [] => -1 | u :: _ => u
def kidX (l : List XL) (o : List Nat) : List XL := match o with | [] => l | u :: _ => atX (addKid l.length) l u
def beginX (b : XB) (t : XT) : XR XB :=
  if b.opened = [] ∧ 0 < b.elems.length then .bad ⟨11, t.place, wRoot⟩
  else if 100 ≤ b.opened.length ∨ 10000 ≤ b.elems.length then .bad ⟨2, t.place, wElements⟩
  else .ok { elems := kidX b.elems b.opened ++ [⟨t.name, t.place, upX b.opened, t.attrs, [], []⟩], opened := if t.empty then b.opened else b.elems.length :: b.opened, most := max b.most (b.opened.length + 1) }
def takeX (b : XB) (t : XT) : XR XB :=
  if t.kind = 1 then beginX b t
  else match b.opened with
    | [] => if t.kind = 3 then (if spacesX t.text then .ok b else .bad ⟨11, t.place, wText⟩) else .bad ⟨11, t.place, wEnd⟩
    | u :: r =>
      if t.kind = 3 then .ok { b with elems := atX (addText t.text) b.elems u }
      else if (b.elems[u]?).map (·.name) = some t.name then .ok { b with opened := r } else .bad ⟨11, t.place, wEnd⟩
def treeX : List XT → XB → XR XB
  | [], b => .ok b
  | t :: l, b =>
    match takeX b t with
    | .none => .none
    | .bad e => .bad e
    | .ok c => treeX l c
def b0X : XB := ⟨[], [], 0⟩
/-- The document, or the reason. -/
def docX (n : Nat) (l : List XT) : XR XB :=
  match treeX l b0X with
  | .none => .none
  | .bad e => .bad e
  | .ok b => if b.elems = [] ∨ b.opened ≠ [] then .bad ⟨11, n, wEnd⟩ else .ok b
theorem treeX_app : ∀ (l k : List XT) (b : XB), treeX (l ++ k) b = match treeX l b with | .none => .none | .bad e => .bad e | .ok c => treeX k c
  | [], k, b => rfl
  | t :: l, k, b => by
    simp only [List.cons_append, treeX]
    cases h : takeX b t with
    | none => rfl
    | bad e => rfl
    | ok c => exact treeX_app l k c
/-- An element one element deeper. -/
def shL (d : Nat) (e : XL) : XL := ⟨e.name, e.place + d, e.up + 1, e.attrs.map (shA d), e.kids.map (· + 1), e.text⟩
/-- One document in an element of a name. -/
structure Within (q : List UInt8) (d : Nat) (b b' : XB) : Prop where
  opened : b'.opened = b.opened.map (· + 1) ++ [0]
  elems : ∃ x, b'.elems = ⟨q, 0, -1, [], if b.elems = [] then [] else [1], x⟩ :: b.elems.map (shL d)
  most : b'.most = b.most + 1
theorem Within.len {q : List UInt8} {d : Nat} {b b' : XB} (h : Within q d b b') : b'.elems.length = b.elems.length + 1 := by
  obtain ⟨x, hx⟩ := h.elems
  rw [hx]; simp
theorem take_within {q : List UInt8} {d : Nat} {b b' c : XB} {t : XT} (h : Within q d b b') (hi : b.opened ≠ [] → b.elems ≠ []) (ht : takeX b t = .ok c) (hn : c.elems.length + 1 ≤ 10000) :
    (b.most ≤ c.most) ∧ b.elems.length ≤ c.elems.length ∧ (c.most + 1 ≤ 100 → ∃ c', takeX b' (shT d t) = .ok c' ∧ Within q d c c') ∧ (b.most + 1 ≤ 100 → 100 < c.most + 1 → takeX b' (shT d t) = .bad ⟨2, t.place + d, wElements⟩) := by
  have hlen := h.len
  obtain ⟨h1, ⟨x, h2⟩, h3⟩ := h
  unfold takeX at ht ⊢
  show _ ∧ _ ∧ (_ → ∃ c', (if t.kind = 1 then _ else _) = _ ∧ _) ∧ (_ → _ → (if t.kind = 1 then _ else _) = _)
  by_cases hk : t.kind = 1
  · rw [if_pos hk] at ht ⊢
    unfold beginX at ht ⊢
    by_cases g1 : b.opened = [] ∧ 0 < b.elems.length
    · rw [if_pos g1] at ht; cases ht
    rw [if_neg g1] at ht
    by_cases g2 : 100 ≤ b.opened.length ∨ 10000 ≤ b.elems.length
    · rw [if_pos g2] at ht; cases ht
    rw [if_neg g2] at ht
    cases ht
    have hkl : (kidX b.elems b.opened).length = b.elems.length := by
      unfold kidX; split
      · rfl
      · exact atX_len _ _ _
    have ho : b'.opened.length = b.opened.length + 1 := by rw [h1]; simp
    have hne : b'.opened ≠ [] := fun e => by rw [e] at ho; simp at ho
    simp only [List.length_append, hkl, List.length_cons, List.length_nil] at hn
    refine ⟨Nat.le_max_left _ _, by simp [hkl], fun hm => ?_, fun hb hm => ?_⟩
    · rw [if_neg (fun e => hne e.1), if_neg (by simp only [] at hm; omega)]
      refine ⟨_, rfl, ?_, ⟨x, ?_⟩, ?_⟩
      · show (if t.empty then b'.opened else b'.elems.length :: b'.opened) = (if t.empty then b.opened else b.elems.length :: b.opened).map (· + 1) ++ [0]
        rw [hlen, h1]
        cases t.empty <;> simp
      · show kidX b'.elems b'.opened ++ [⟨t.name, t.place + d, upX b'.opened, t.attrs.map (shA d), [], []⟩] = _
        have hend : kidX b.elems b.opened ++ [(⟨t.name, t.place, upX b.opened, t.attrs, [], []⟩ : XL)] ≠ [] := by simp
        rw [if_neg hend, List.map_append, h1, h2]
        cases ho : b.opened with
        | nil =>
          have he : b.elems = [] := by
            cases he : b.elems with
            | nil => rfl
            | cons e l => exact absurd ⟨ho, by rw [he]; simp⟩ g1
          rw [he]
          simp [kidX, upX, atX, addKid, shL]
        | cons u r =>
          simp only [List.map_cons, List.cons_append, kidX, upX, atX, List.length_cons]
          rw [atX_map (g := addKid b.elems.length) (h := addKid ((b.elems.map (shL d)).length + 1)) (m := shL d) (fun e => by simp [addKid, shL])]
          have hene : b.elems ≠ [] := hi (by rw [ho]; simp)
          rw [if_neg hene]
          simp [shL]
      · show max b'.most (b'.opened.length + 1) = max b.most (b.opened.length + 1) + 1
        rw [h3, ho]; omega
    · rw [if_neg (fun e => hne e.1), if_pos (by simp only [] at hm; omega)]
      rfl
  rw [if_neg hk] at ht ⊢
  cases ho : b.opened with
  | nil =>
    rw [ho] at ht h1
    rw [h1]
    simp only [List.map_nil, List.nil_append] at ht ⊢
    show _ ∧ _ ∧ (_ → ∃ c', (if t.kind = 3 then _ else _) = _ ∧ _) ∧ _
    by_cases g : t.kind = 3
    · rw [if_pos g] at ht ⊢
      by_cases g2 : spacesX t.text = true
      · rw [if_pos g2] at ht
        cases ht
        refine ⟨Nat.le_refl _, Nat.le_refl _, fun _ => ⟨_, rfl, ?_, ⟨x ++ t.text, ?_⟩, h3⟩, fun _ _ => by omega⟩
        · simp [ho]
        · show atX _ b'.elems 0 = _
          rw [h2]; rfl
      · rw [if_neg g2] at ht; cases ht
    · rw [if_neg g] at ht; cases ht
  | cons u r =>
    rw [ho] at ht h1
    rw [h1]
    simp only [List.map_cons, List.cons_append] at ht ⊢
    show _ ∧ _ ∧ (_ → ∃ c', (if t.kind = 3 then _ else _) = _ ∧ _) ∧ (_ → _ → (if t.kind = 3 then _ else _) = _)
    by_cases g : t.kind = 3
    · rw [if_pos g] at ht ⊢
      cases ht
      refine ⟨Nat.le_refl _, by simp [atX_len], fun _ => ⟨_, rfl, ?_, ⟨x, ?_⟩, h3⟩, fun _ _ => by simp only [] at *; omega⟩
      · simp
      · show atX _ b'.elems (u + 1) = _
        rw [h2]
        simp only [atX, atX_nil]
        rw [atX_map (g := addText t.text) (h := addText (shT d t).text) (m := shL d) (fun e => rfl)]
    · rw [if_neg g] at ht ⊢
      have hnm : (b'.elems[u + 1]?).map (·.name) = (b.elems[u]?).map (·.name) := by
        rw [h2]; simp [List.getElem?_map, Option.map_map]; rfl
      rw [hnm]
      show _ ∧ _ ∧ (_ → ∃ c', (if _ = some t.name then _ else _) = _ ∧ _) ∧ (_ → _ → (if _ = some t.name then _ else _) = _)
      by_cases g2 : (b.elems[u]?).map (·.name) = some t.name
      · rw [if_pos g2] at ht ⊢
        cases ht
        refine ⟨Nat.le_refl _, Nat.le_refl _, fun _ => ⟨_, rfl, rfl, ⟨x, h2⟩, h3⟩, fun _ _ => by simp only [] at *; omega⟩
      · rw [if_neg g2] at ht; cases ht
end Go.Proofs.Ytajnpmhgldfgfaa
namespace Go.Proofs.Ytajnpmhgldfgfaa
open Go.RowKit
set_option linter.unusedVariables false

/-- What holds of all that is made. -/
structure BOk (b : XB) : Prop where
  ne : b.opened ≠ [] → b.elems ≠ []
  deep : b.opened.length ≤ b.most
theorem b0_ok : BOk b0X := ⟨fun h => absurd rfl h, Nat.le_refl _⟩
theorem take_ok {b c : XB} {t : XT} (h : BOk b) (ht : takeX b t = .ok c) : BOk c ∧ b.most ≤ c.most ∧ b.elems.length ≤ c.elems.length ∧ c.elems.length ≤ b.elems.length + 1 := by
  obtain ⟨h1, h2⟩ := h
  unfold takeX at ht
  by_cases hk : t.kind = 1
  · rw [if_pos hk] at ht
    unfold beginX at ht
    by_cases g1 : b.opened = [] ∧ 0 < b.elems.length
    · rw [if_pos g1] at ht; cases ht
    rw [if_neg g1] at ht
    by_cases g2 : 100 ≤ b.opened.length ∨ 10000 ≤ b.elems.length
    · rw [if_pos g2] at ht; cases ht
    rw [if_neg g2] at ht
    cases ht
    have hkl : (kidX b.elems b.opened).length = b.elems.length := by
      unfold kidX; split
      · rfl
      · exact atX_len _ _ _
    refine ⟨⟨fun _ => by simp, ?_⟩, Nat.le_max_left _ _, by simp [hkl], by simp [hkl]⟩
    show (if t.empty then b.opened else b.elems.length :: b.opened).length ≤ max b.most (b.opened.length + 1)
    cases t.empty <;> simp <;> omega
  rw [if_neg hk] at ht
  cases ho : b.opened with
  | nil =>
    rw [ho] at ht
    simp only [] at ht
    by_cases g : t.kind = 3
    · rw [if_pos g] at ht
      by_cases g2 : spacesX t.text = true
      · rw [if_pos g2] at ht
        cases ht
        exact ⟨⟨h1, h2⟩, Nat.le_refl _, Nat.le_refl _, by omega⟩
      · rw [if_neg g2] at ht; cases ht
    · rw [if_neg g] at ht; cases ht
  | cons u r =>
    rw [ho] at ht
    simp only [] at ht
    have hne : b.elems ≠ [] := h1 (by rw [ho]; simp)
    have hl : (u :: r).length ≤ b.most := by rw [← ho]; exact h2
    by_cases g : t.kind = 3
    · rw [if_pos g] at ht
      cases ht
      exact ⟨⟨fun _ => fun e => hne (atX_nil.1 e), hl⟩, Nat.le_refl _, by simp [atX_len], by simp [atX_len]⟩
    · rw [if_neg g] at ht
      by_cases g2 : (b.elems[u]?).map (·.name) = some t.name
      · rw [if_pos g2] at ht
        cases ht
        exact ⟨⟨fun _ => hne, by simp at hl; show r.length ≤ b.most; omega⟩, Nat.le_refl _, Nat.le_refl _, Nat.le_succ _⟩
      · rw [if_neg g2] at ht; cases ht
theorem tree_ok : ∀ (l : List XT) {b c : XB}, BOk b → treeX l b = .ok c → BOk c ∧ b.most ≤ c.most ∧ b.elems.length ≤ c.elems.length ∧ c.elems.length ≤ b.elems.length + l.length
  | [], b, c, h, ht => by cases ht; exact ⟨h, Nat.le_refl _, Nat.le_refl _, by simp⟩
  | t :: l, b, c, h, ht => by
    unfold treeX at ht
    cases hd : takeX b t with
    | none => rw [hd] at ht; cases ht
    | bad e => rw [hd] at ht; cases ht
    | ok d =>
      rw [hd] at ht
      have h1 := take_ok h hd
      have h2 := tree_ok l h1.1 ht
      refine ⟨h2.1, by omega, by omega, ?_⟩
      rw [List.length_cons]; omega
/-- Tokens within an element. -/
theorem tree_within {q : List UInt8} {d : Nat} : ∀ (l : List XT) {b b' c : XB}, Within q d b b' → BOk b → treeX l b = .ok c → b.elems.length + l.length + 1 ≤ 10000 → b.most + 1 ≤ 100 →
    (c.most + 1 ≤ 100 → ∃ c', treeX (l.map (shT d)) b' = .ok c' ∧ Within q d c c') ∧ (100 < c.most + 1 → ∃ a w, treeX (l.map (shT d)) b' = .bad ⟨2, a, w⟩)
  | [], b, b', c, h, hb, ht, hn, hm => by
    cases ht
    exact ⟨fun _ => ⟨b', rfl, h⟩, fun h => by omega⟩
  | t :: l, b, b', c, h, hb, ht, hn, hm => by
    unfold treeX at ht
    simp only [List.map_cons, treeX]
    cases hd : takeX b t with
    | none => rw [hd] at ht; cases ht
    | bad e => rw [hd] at ht; cases ht
    | ok x =>
      rw [hd] at ht
      have h1 := take_ok hb hd
      have h2 := tree_ok l h1.1 ht
      rw [List.length_cons] at hn
      obtain ⟨-, -, g3, g4⟩ := take_within h hb.ne hd (by omega)
      by_cases hx : x.most + 1 ≤ 100
      · obtain ⟨x', k1, k2⟩ := g3 hx
        have ih := tree_within l k2 h1.1 ht (by omega) hx
        rw [k1]
        exact ih
      · rw [g4 hm (by omega)]
        exact ⟨fun h => by omega, fun _ => ⟨_, _, rfl⟩⟩
/-- What is too deep stays so. -/
theorem take_deep {q : List UInt8} {d : Nat} {b b' : XB} {t : XT} {a : Nat} {w : List UInt8} (h : Within q d b b') (ht : takeX b t = .bad ⟨2, a, w⟩) : ∃ a' w', takeX b' (shT d t) = .bad ⟨2, a', w'⟩ := by
  have hlen := h.len
  obtain ⟨h1, -, -⟩ := h
  unfold takeX at ht ⊢
  by_cases hk : t.kind = 1
  · rw [if_pos hk] at ht
    show ∃ a' w', (if t.kind = 1 then _ else _) = _
    rw [if_pos hk]
    unfold beginX at ht ⊢
    by_cases g1 : b.opened = [] ∧ 0 < b.elems.length
    · rw [if_pos g1] at ht; cases ht
    rw [if_neg g1] at ht
    by_cases g2 : 100 ≤ b.opened.length ∨ 10000 ≤ b.elems.length
    · have ho : b'.opened.length = b.opened.length + 1 := by rw [h1]; simp
      rw [if_neg (fun e => by rw [e.1] at ho; simp at ho), if_pos (by omega)]
      exact ⟨_, _, rfl⟩
    · rw [if_neg g2] at ht; cases ht
  · exfalso
    rw [if_neg hk] at ht
    cases ho : b.opened with
    | nil =>
      rw [ho] at ht
      simp only [] at ht
      split at ht
      · split at ht <;> cases ht
      · cases ht
    | cons u r =>
      rw [ho] at ht
      simp only [] at ht
      split at ht
      · cases ht
      · split at ht <;> cases ht
theorem tree_deep {q : List UInt8} {d : Nat} : ∀ (l : List XT) {b b' : XB} {a : Nat} {w : List UInt8}, Within q d b b' → BOk b → treeX l b = .bad ⟨2, a, w⟩ → b.elems.length + l.length + 1 ≤ 10000 → b.most + 1 ≤ 100 →
    ∃ a' w', treeX (l.map (shT d)) b' = .bad ⟨2, a', w'⟩
  | [], b, b', a, w, h, hb, ht, hn, hm => by cases ht
  | t :: l, b, b', a, w, h, hb, ht, hn, hm => by
    unfold treeX at ht
    simp only [List.map_cons, treeX]
    cases hd : takeX b t with
    | none => rw [hd] at ht; cases ht
    | bad e =>
      rw [hd] at ht
      cases ht
      obtain ⟨a', w', k⟩ := take_deep h hd
      rw [k]
      exact ⟨_, _, rfl⟩
    | ok x =>
      rw [hd] at ht
      have h1 := take_ok hb hd
      rw [List.length_cons] at hn
      obtain ⟨-, -, g3, g4⟩ := take_within h hb.ne hd (by omega)
      by_cases hx : x.most + 1 ≤ 100
      · obtain ⟨x', k1, k2⟩ := g3 hx
        rw [k1]
        exact tree_deep l k2 h1.1 ht (by omega) hx
      · rw [g4 hm (by omega)]
        exact ⟨_, _, rfl⟩
/-- The state behind an element's begin. -/
def b1X (q : List UInt8) : XB := ⟨[⟨q, 0, -1, [], [], []⟩], [0], 1⟩
theorem take_first (q : List UInt8) : takeX b0X ⟨1, 0, q, [], [], false⟩ = .ok (b1X q) := by
  unfold takeX beginX b0X
  rw [if_pos rfl, if_neg (by simp), if_neg (by simp)]
  rfl
theorem within_first (q : List UInt8) (d : Nat) : Within q d b0X (b1X q) := ⟨rfl, ⟨[], rfl⟩, rfl⟩
/-- The document that stands in one more element. -/
theorem tree_wrap {q : List UInt8} {d e : Nat} {l : List XT} {b : XB} (ht : treeX l b0X = .ok b) (ho : b.opened = []) (hn : l.length + 1 ≤ 10000) :
    (b.most + 1 ≤ 100 → ∃ x, treeX (⟨1, 0, q, [], [], false⟩ :: l.map (shT d) ++ [⟨2, e, q, [], [], false⟩]) b0X = .ok ⟨⟨q, 0, -1, [], if b.elems = [] then [] else [1], x⟩ :: b.elems.map (shL d), [], b.most + 1⟩) ∧
    (100 < b.most + 1 → ∃ a w, treeX (⟨1, 0, q, [], [], false⟩ :: l.map (shT d) ++ [⟨2, e, q, [], [], false⟩]) b0X = .bad ⟨2, a, w⟩) := by
  obtain ⟨g1, g2⟩ := tree_within (q := q) (d := d) l (within_first q d) b0_ok ht (by show 0 + _ + 1 ≤ 10000; omega) (by show 0 + 1 ≤ 100; omega)
  simp only [List.cons_append, treeX, take_first, treeX_app]
  refine ⟨fun h => ?_, fun h => ?_⟩
  · obtain ⟨c, k1, k2, ⟨x, k3⟩, k4⟩ := g1 h
    rw [k1]
    simp only []
    rw [ho] at k2
    simp only [takeX, k2, List.map_nil, List.nil_append]
    rw [if_neg (by decide), if_neg (by decide), if_pos (by rw [k3]; rfl)]
    exact ⟨x, by rw [k3, k4]⟩
  · obtain ⟨a, w, k⟩ := g2 h
    rw [k]
    exact ⟨_, _, rfl⟩
theorem tree_wrap_deep {q : List UInt8} {d e a : Nat} {w : List UInt8} {l : List XT} (ht : treeX l b0X = .bad ⟨2, a, w⟩) (hn : l.length + 1 ≤ 10000) :
    ∃ a' w', treeX (⟨1, 0, q, [], [], false⟩ :: l.map (shT d) ++ [⟨2, e, q, [], [], false⟩]) b0X = .bad ⟨2, a', w'⟩ := by
  obtain ⟨a', w', k⟩ := tree_deep (q := q) (d := d) l (within_first q d) b0_ok ht (by show 0 + _ + 1 ≤ 10000; omega) (by show 0 + 1 ≤ 100; omega)
  simp only [List.cons_append, treeX, take_first, treeX_app, k]
  exact ⟨_, _, rfl⟩
end Go.Proofs.Ytajnpmhgldfgfaa
namespace Go.Proofs.Ytajnpmhgldfgfaa
open Go.RowKit
set_option linter.unusedVariables false

theorem wordsX_some : ∀ (f : Nat) (l : List UInt8) (a : Nat) (acc : List UInt8), l.length < f → wordsX f l a acc ≠ .none
  | 0, l, a, acc, h => absurd h (by omega)
  | f + 1, l, a, acc, h => by
    unfold wordsX
    by_cases h1 : l = []
    · rw [if_pos h1]; exact nofun
    rw [if_neg h1]
    have hl : 0 < l.length := List.length_pos_iff.2 h1
    by_cases h2 : Lib.indexAny l [38, 93] < 0
    · rw [if_pos h2]; exact nofun
    rw [if_neg h2]
    by_cases h3 : 0 < Lib.indexAny l [38, 93]
    · rw [if_pos h3]; exact wordsX_some f _ _ _ (by rw [List.length_drop]; omega)
    rw [if_neg h3]
    by_cases h4 : l[0]? = some 38
    · rw [if_pos h4]
      cases hr : refX l with
      | none => exact nofun
      | some tn =>
        obtain ⟨t, n⟩ := tn
        have := refX_bd hr
        exact wordsX_some f _ _ _ (by rw [List.length_drop]; omega)
    rw [if_neg h4]
    by_cases h5 : Lib.hasPrefix l [93, 93, 62] = true
    · rw [if_pos h5]; exact nofun
    · rw [if_neg h5]; exact wordsX_some f _ _ _ (by rw [List.length_drop]; omega)
theorem valueX_some (ca : Nat) (q : UInt8) : ∀ (f : Nat) (l : List UInt8) (a : Nat) (acc : List UInt8), l.length < f → valueX ca q f l a acc ≠ .none
  | 0, l, a, acc, h => absurd h (by omega)
  | f + 1, [], a, acc, h => nofun
  | f + 1, c :: t, a, acc, h => by
    rw [List.length_cons] at h
    unfold valueX
    simp only
    by_cases h1 : c = q
    · rw [if_pos h1]; exact nofun
    rw [if_neg h1]
    by_cases h2 : c = 60
    · rw [if_pos h2]; exact nofun
    rw [if_neg h2]
    by_cases h3 : c = 38
    · rw [if_pos h3]
      cases hr : refX (c :: t) with
      | none => exact nofun
      | some xn =>
        obtain ⟨x, n⟩ := xn
        have := refX_bd hr
        exact valueX_some ca q f _ _ _ (by rw [List.length_drop, List.length_cons]; omega)
    rw [if_neg h3]
    by_cases h4 : c = 13 ∧ Lib.hasPrefix (c :: t) [13, 10] = true
    · rw [if_pos h4]; exact valueX_some ca q f _ _ _ (by rw [List.length_drop]; omega)
    rw [if_neg h4]
    by_cases h5 : c = 13 ∨ c = 10 ∨ c = 9
    · rw [if_pos h5]; exact valueX_some ca q f _ _ _ (by omega)
    · rw [if_neg h5]; exact valueX_some ca q f _ _ _ (by omega)
theorem attrX_some {f : Nat} {s : List UInt8} {ca : Nat} {l : List XA} {a : Nat} (h : s.length < f + a) : attrX f s ca l a ≠ .none := by
  unfold attrX
  simp only []
  split
  · exact nofun
  split
  · exact nofun
  rename_i h2
  split
  · exact nofun
  rename_i q hq
  have hlt := (List.getElem?_eq_some_iff.1 hq).1
  split
  · split
    · rename_i hv
      exact absurd hv (valueX_some ca q f _ _ _ (by rw [List.length_drop]; omega))
    · exact nofun
    · exact nofun
  · exact nofun
theorem openGo_some {s : List UInt8} {ca : Nat} : ∀ (f : Nat) (l : List XA) (a : Nat), s.length < f + a → a ≤ s.length → openGo s ca f l a ≠ .none
  | 0, l, a, h, ha => by omega
  | f + 1, l, a, h, ha => by
    unfold openGo
    simp only []
    have hble := blanksX_le (s.drop a)
    rw [List.length_drop] at hble
    split
    · exact nofun
    split
    · exact nofun
    split
    · exact nofun
    rename_i h3
    cases hx : attrX f s ca l (a + blanksX (s.drop a)) with
    | none => exact absurd hx (attrX_some (by omega))
    | bad e => exact nofun
    | ok xe =>
      obtain ⟨x, e'⟩ := xe
      have hb := attrX_bd (by omega) hx
      exact openGo_some f _ _ (by omega) hb.2.1
theorem openX_some {f : Nat} {s : List UInt8} {ca : Nat} (h : s.length < f) (hc : ca < s.length) : openX f s ca ≠ .none := by
  unfold openX
  simp only []
  have hle := nameX_le (s.drop (ca + 1))
  rw [List.length_drop] at hle
  split
  · exact nofun
  cases hg : openGo s ca f [] (ca + 1 + nameX (s.drop (ca + 1))) with
  | none => exact absurd hg (openGo_some _ _ _ (by omega) (by omega))
  | bad e => exact nofun
  | ok r => obtain ⟨l, em, e⟩ := r; exact nofun
theorem nextF_some {f : Nat} {s : List UInt8} {c : XS} (h : s.length < f) (hc : c.place < s.length) : nextF f s c ≠ .none := by
  unfold nextF
  simp only []
  split
  · cases hw : wordsX f ((s.drop c.place).take (endX s c.place - c.place)) c.place [] with
    | none => exact absurd hw (wordsX_some _ _ _ _ (by rw [List.length_take, List.length_drop]; omega))
    | bad e => exact nofun
    | ok x => exact nofun
  split
  · cases hw : rawX s c.place with
    | none => exact absurd hw (by unfold rawX; split <;> exact nofun)
    | bad e => exact nofun
    | ok x => exact nofun
  split
  · cases hw : skipX s c.place with
    | none => exact absurd hw (by
      unfold skipX
      split
      · exact nofun
      · split <;> exact nofun)
    | bad e => exact nofun
    | ok x => exact nofun
  split
  · cases hw : orderX s c.place with
    | none => exact absurd hw (by unfold orderX; simp only []; split <;> exact nofun)
    | bad e => exact nofun
    | ok x => exact nofun
  split
  · exact nofun
  split
  · cases hw : closeX s c.place with
    | none => exact absurd hw (by unfold closeX; simp only []; split <;> exact nofun)
    | bad e => exact nofun
    | ok x => exact nofun
  · cases hw : openX f s c.place with
    | none => exact absurd hw (openX_some h hc)
    | bad e => exact nofun
    | ok x => exact nofun
theorem shT_zero : shT 0 = id := by funext t; simp [shT, show shA 0 = id from rfl]
theorem nextF_grows {f : Nat} {s : List UInt8} {c c1 : XS} (hc : c.place < s.length) (h : nextF f s c = .ok c1) : c.place < c1.place ∧ c1.place ≤ s.length := by
  obtain ⟨_, _, _, g⟩ := next_app (pre := []) (c' := c) [] [] hc (.inr rfl) h ⟨rfl, by rw [show ([] : List UInt8).length = 0 from rfl, shT_zero]; simp, rfl, fun _ => rfl⟩
  exact g
/-- The cutter behind the test of the characters. -/
def cutG (f0 : Nat) (s : List UInt8) : Nat → XS → XR (List XT)
  | 0, _ => .none
  | f + 1, c =>
    if s.length ≤ c.place then .ok (finX c).out
    else
      match nextF f0 s c with
      | .none => .none
      | .bad e => .bad e
      | .ok c' => cutG f0 s f c'
/-- Behind steps the cutter goes on as from there. -/
theorem cutG_go {f0 : Nat} {s : List UInt8} {c c1 : XS} (h : Steps f0 s c c1) (hc : c.place ≤ s.length) : ∃ n, n ≤ c1.place - c.place ∧ c.place ≤ c1.place ∧ c1.place ≤ s.length ∧ ∀ k, cutG f0 s (k + n) c = cutG f0 s k c1 := by
  induction h with
  | refl c => exact ⟨0, by omega, Nat.le_refl _, hc, fun _ => rfl⟩
  | step c c2 c3 h1 h2 _ ih =>
    have hg := nextF_grows h1 h2
    obtain ⟨n, k1, k2, k3, k4⟩ := ih hg.2
    refine ⟨n + 1, by omega, by omega, k3, fun k => ?_⟩
    rw [← Nat.add_assoc, cutG, if_neg (by omega), h2]
    exact k4 k
theorem cutG_runs {f0 : Nat} {s : List UInt8} {l : List XT} (h : Runs f0 s l) : cutG f0 s (s.length + 1) c0X = .ok l := by
  obtain ⟨c, hs, hp, rfl⟩ := h
  obtain ⟨n, k1, k2, k3, k4⟩ := cutG_go hs (Nat.zero_le _)
  have hz : c0X.place = 0 := rfl
  have : s.length + 1 = (s.length - n + 1) + n := by omega
  rw [this, k4, cutG, if_pos hp]
theorem cutG_fails {f0 : Nat} {s : List UInt8} {e : XE} (h : Fails f0 s e) : cutG f0 s (s.length + 1) c0X = .bad e := by
  obtain ⟨c, hs, hp, he⟩ := h
  obtain ⟨n, k1, k2, k3, k4⟩ := cutG_go hs (Nat.zero_le _)
  have hz : c0X.place = 0 := rfl
  have : s.length + 1 = (s.length - n + 1) + n := by omega
  rw [this, k4, cutG, if_neg (by omega), he]
theorem cutG_ok {f0 : Nat} {s : List UInt8} {l : List XT} : ∀ (k : Nat) (c : XS), cutG f0 s k c = .ok l → ∃ c1, Steps f0 s c c1 ∧ s.length ≤ c1.place ∧ (finX c1).out = l
  | 0, c, h => by cases h
  | k + 1, c, h => by
    unfold cutG at h
    by_cases h1 : s.length ≤ c.place
    · rw [if_pos h1] at h
      cases h
      exact ⟨c, .refl _, h1, rfl⟩
    · rw [if_neg h1] at h
      cases hn : nextF f0 s c with
      | none => rw [hn] at h; cases h
      | bad e => rw [hn] at h; cases h
      | ok d =>
        rw [hn] at h
        obtain ⟨c1, g1, g2, g3⟩ := cutG_ok k d h
        exact ⟨c1, .step c d c1 (by omega) hn g1, g2, g3⟩
theorem cutG_some {f0 : Nat} {s : List UInt8} (hf : s.length < f0) : ∀ (k : Nat) (c : XS), s.length < k + c.place → c.place ≤ s.length → cutG f0 s k c ≠ .none
  | 0, c, h, hc => by omega
  | k + 1, c, h, hc => by
    unfold cutG
    by_cases h1 : s.length ≤ c.place
    · rw [if_pos h1]; exact nofun
    · rw [if_neg h1]
      cases hn : nextF f0 s c with
      | none => exact absurd hn (nextF_some hf (by omega))
      | bad e => exact nofun
      | ok d =>
        have hg := nextF_grows (by omega) hn
        exact cutG_some hf k d (by omega) hg.2
/-- How many tokens there are. -/
theorem steps_out {f : Nat} {s : List UInt8} {c c1 : XS} (h : Steps f s c c1) : c1.out.length ≤ c.out.length + 2 * (c1.place - c.place) ∧ c.place ≤ c1.place := by
  induction h with
  | refl c => exact ⟨by omega, Nat.le_refl _⟩
  | step c c2 c3 h1 h2 _ ih =>
    have hg := nextF_grows h1 h2
    have ho : c2.out.length ≤ c.out.length + 2 := by
      have hfin : (finX c).out.length ≤ c.out.length + 1 := by
        show (if c.text = [] then c.out else c.out ++ [⟨3, c.since, [], c.text, [], false⟩]).length ≤ _
        split <;> simp
      have hadd : ∀ a x, (addX c a x).out = c.out := fun a x => by unfold addX; split <;> rfl
      unfold nextF at h2
      simp only [] at h2
      repeat' split at h2
      all_goals first
        | (cases h2; done)
        | (cases h2; simp only [hadd, List.length_append, List.length_cons, List.length_nil]; omega)
    omega
theorem runs_len {f : Nat} {s : List UInt8} {l : List XT} (h : Runs f s l) : l.length ≤ 2 * s.length + 1 := by
  obtain ⟨c, hs, hp, rfl⟩ := h
  have h1 := steps_out hs
  obtain ⟨_, _, _, h3, _⟩ := cutG_go hs (Nat.zero_le _)
  have hz : c0X.place = 0 := rfl
  have ho : c0X.out.length = 0 := rfl
  have hfin : (finX c).out.length ≤ c.out.length + 1 := by
    show (if c.text = [] then c.out else c.out ++ [⟨3, c.since, [], c.text, [], false⟩]).length ≤ _
    split <;> simp
  omega
end Go.Proofs.Ytajnpmhgldfgfaa
namespace Go.Proofs.Ytajnpmhgldfgfaa
open Go.RowKit
set_option linter.unusedVariables false

def bigF : Nat := 100000
/-- The cutter. -/
def cutF (s : List UInt8) : XR (List XT) := match charsX s with | some e => .bad e | none => cutG bigF s (s.length + 1) c0X
/-- The document of a text, or the reason. -/
def parseX (s : List UInt8) : XR XB := match cutF s with | .none => .none | .bad e => .bad e | .ok l => docX s.length l
theorem runesAt_two_snd : ∀ (t : List (Nat × Nat)) (k : Nat), (runesAt k t).map (·.2) = t.map (·.1)
  | [], _ => rfl
  | (r, n) :: t, k => by
    show r :: (runesAt (k + n) t).map (·.2) = r :: t.map (·.1)
    rw [runesAt_two_snd t]
theorem charsX_iff (s : List UInt8) : charsX s = none ↔ checkL s = s.length ∧ ∀ r : Nat, r ∈ (runesL s).map (·.1) → charR (r : Int) = true := by
  unfold charsX
  by_cases h : checkL s ≠ s.length
  · rw [if_pos h]
    exact ⟨nofun, fun g => absurd g.1 h⟩
  · rw [if_neg h]
    have hc : checkL s = s.length := Classical.byContradiction h
    rw [← runesAt_two_snd (runesL s) 0]
    have ha : allRunes s = runesAt 0 (runesL s) := rfl
    rw [← ha]
    cases hf : (allRunes s).find? (fun p => !charR (p.2 : Int)) with
    | some p =>
      refine ⟨nofun, fun g => ?_⟩
      have h1 := List.find?_some hf
      have h2 := g.2 p.2 (List.mem_map_of_mem (List.mem_of_find?_eq_some hf))
      simp [h2] at h1
    | none =>
      refine ⟨fun _ => ⟨hc, fun r hr => ?_⟩, fun _ => rfl⟩
      obtain ⟨p, hp, rfl⟩ := List.mem_map.1 hr
      have := List.find?_eq_none.1 hf p hp
      simpa using this
theorem charsX_app {a b : List UInt8} (ha : charsX a = none) (hb : charsX b = none) : charsX (a ++ b) = none := by
  rw [charsX_iff] at ha hb ⊢
  refine ⟨by rw [checkL_append a b ha.1, hb.1, List.length_append], fun r hr => ?_⟩
  rw [runesL_append _ a b (Nat.le_refl _) ha.1, List.map_append, List.mem_append] at hr
  exact hr.elim (ha.2 r) (hb.2 r)
theorem cut_runs {s : List UInt8} {l : List XT} (h : cutF s = .ok l) : charsX s = none ∧ Runs bigF s l := by
  unfold cutF at h
  cases hc : charsX s with
  | some e => rw [hc] at h; cases h
  | none => rw [hc] at h; exact ⟨rfl, cutG_ok _ _ h⟩
theorem runs_cut {s : List UInt8} {l : List XT} (hc : charsX s = none) (h : Runs bigF s l) : cutF s = .ok l := by
  unfold cutF
  rw [hc]
  exact cutG_runs h
theorem fails_cut {s : List UInt8} {e : XE} (hc : charsX s = none) (h : Fails bigF s e) : cutF s = .bad e := by
  unfold cutF
  rw [hc]
  exact cutG_fails h
/-- A text in one more element. -/
def wrapX (s : List UInt8) : List UInt8 := 60 :: 113 :: [] ++ [62] ++ s ++ 60 :: 47 :: 113 :: [] ++ [62]
theorem wrapX_len (s : List UInt8) : (wrapX s).length = s.length + 7 := by simp [wrapX]
theorem wrapX_hp (s : List UInt8) : Lib.hasPrefix (wrapX s) [60, 63] = false := rfl
theorem chars_wrap {s : List UInt8} (h : charsX s = none) : charsX (wrapX s) = none := by
  have h1 : charsX [60, 113, 62] = none := charsX_print (by decide)
  have h2 : charsX [60, 47, 113, 62] = none := charsX_print (by decide)
  have := charsX_app (charsX_app h1 h) h2
  have e : wrapX s = [60, 113, 62] ++ s ++ [60, 47, 113, 62] := by simp [wrapX]
  rw [e]; exact this
theorem cut_wrap {s : List UInt8} {l : List XT} (hq : Lib.hasPrefix s [60, 63] = false) (h : cutF s = .ok l) :
    cutF (wrapX s) = .ok (⟨1, 0, [113], [], [], false⟩ :: l.map (shT 3) ++ [⟨2, s.length + 3, [113], [], [], false⟩]) := by
  obtain ⟨hc, hr⟩ := cut_runs h
  exact runs_cut (chars_wrap hc) (runs_wrap (f := 99999) (b := 113) (m := []) hq hr (by decide) (by decide) (by decide) nameX_q)
/-- A document that was read. -/
theorem parse_ok {s : List UInt8} {b : XB} (h : parseX s = .ok b) : ∃ l, cutF s = .ok l ∧ treeX l b0X = .ok b ∧ b.elems ≠ [] ∧ b.opened = [] := by
  unfold parseX at h
  cases hc : cutF s with
  | none => rw [hc] at h; cases h
  | bad e => rw [hc] at h; cases h
  | ok l =>
    rw [hc] at h
    simp only [docX] at h
    cases ht : treeX l b0X with
    | none => rw [ht] at h; cases h
    | bad e => rw [ht] at h; cases h
    | ok c =>
      rw [ht] at h
      simp only [] at h
      by_cases g : c.elems = [] ∨ c.opened ≠ []
      · rw [if_pos g] at h; cases h
      · rw [if_neg g] at h
        cases h
        exact ⟨l, rfl, ht, fun e => g (.inl e), Classical.byContradiction fun e => g (.inr e)⟩
theorem parse_of {s : List UInt8} {l : List XT} {b : XB} (hc : cutF s = .ok l) (ht : treeX l b0X = .ok b) (he : b.elems ≠ []) (ho : b.opened = []) : parseX s = .ok b := by
  unfold parseX
  rw [hc]
  simp only [docX, ht]
  rw [if_neg (by simp [he, ho])]
theorem parse_bad {s : List UInt8} {l : List XT} {e : XE} (hc : cutF s = .ok l) (ht : treeX l b0X = .bad e) : parseX s = .bad e := by
  unfold parseX
  rw [hc]
  simp only [docX, ht]
/-- A text whose document goes too deep. -/
def Deep (s : List UInt8) : Prop := ∃ l a w, cutF s = .ok l ∧ treeX l b0X = .bad ⟨2, a, w⟩
theorem deep_parse {s : List UInt8} (h : Deep s) : ∃ a w, parseX s = .bad ⟨2, a, w⟩ := by
  obtain ⟨l, a, w, h1, h2⟩ := h
  exact ⟨a, w, parse_bad h1 h2⟩
theorem deep_wrap {s : List UInt8} (hq : Lib.hasPrefix s [60, 63] = false) (hs : s.length ≤ 4900) (h : Deep s) : Deep (wrapX s) := by
  obtain ⟨l, a, w, h1, h2⟩ := h
  have hl := runs_len (cut_runs h1).2
  obtain ⟨a', w', k⟩ := tree_wrap_deep (q := [113]) (d := 3) (e := s.length + 3) h2 (by omega)
  exact ⟨_, a', w', cut_wrap hq h1, k⟩
theorem parse_wrap {s : List UInt8} {b : XB} (hq : Lib.hasPrefix s [60, 63] = false) (hs : s.length ≤ 4900) (h : parseX s = .ok b) :
    (b.most + 1 ≤ 100 → ∃ x, parseX (wrapX s) = .ok ⟨⟨[113], 0, -1, [], [1], x⟩ :: b.elems.map (shL 3), [], b.most + 1⟩) ∧ (100 < b.most + 1 → Deep (wrapX s)) := by
  obtain ⟨l, h1, h2, h3, h4⟩ := parse_ok h
  have hl := runs_len (cut_runs h1).2
  obtain ⟨g1, g2⟩ := tree_wrap (q := [113]) (d := 3) (e := s.length + 3) h2 h4 (by omega)
  refine ⟨fun hm => ?_, fun hm => ?_⟩
  · obtain ⟨x, k⟩ := g1 hm
    rw [if_neg h3] at k
    exact ⟨x, parse_of (cut_wrap hq h1) k (by simp) rfl⟩
  · obtain ⟨a, w, k⟩ := g2 hm
    exact ⟨_, a, w, cut_wrap hq h1, k⟩
def wrapN : Nat → List UInt8 → List UInt8
  | 0, s => s
  | k + 1, s => wrapX (wrapN k s)
theorem wrapN_len : ∀ (k : Nat) (s : List UInt8), (wrapN k s).length = s.length + 7 * k
  | 0, s => rfl
  | k + 1, s => by
    show (wrapX (wrapN k s)).length = _
    rw [wrapX_len, wrapN_len k s]; omega
theorem wrapN_hp {s : List UInt8} (hq : Lib.hasPrefix s [60, 63] = false) : ∀ k, Lib.hasPrefix (wrapN k s) [60, 63] = false
  | 0 => hq
  | k + 1 => wrapX_hp _
/-- Elements around a document: what stands where. -/
structure Nested (k : Nat) (l l' : List XL) : Prop where
  len : l'.length = l.length + k
  ups : ∀ j e, j ≤ k → l'[j]? = some e → e.up = (j : Int) - 1
  kids : ∀ j e, j < k → l'[j]? = some e → e.kids = [j + 1]
  name : (l'[k]?).map (·.name) = (l[0]?).map (·.name)
theorem nested_more {k : Nat} {l l' : List XL} {q x : List UInt8} {d : Nat} (h : Nested k l l') : Nested (k + 1) l (⟨q, 0, -1, [], [1], x⟩ :: l'.map (shL d)) := by
  obtain ⟨h1, h2, h3, h4⟩ := h
  refine ⟨by simp [h1]; omega, fun j e hj he => ?_, fun j e hj he => ?_, ?_⟩
  · cases j with
    | zero => simp at he; rw [← he]; rfl
    | succ j =>
      simp at he
      obtain ⟨y, hy, rfl⟩ := he
      have := h2 j y (by omega) hy
      show y.up + 1 = _
      omega
  · cases j with
    | zero => simp at he; rw [← he]
    | succ j =>
      simp at he
      obtain ⟨y, hy, rfl⟩ := he
      have := h3 j y (by omega) hy
      show y.kids.map (· + 1) = _
      rw [this]; rfl
  · rw [← h4]
    simp [List.getElem?_map, Option.map_map]
    rfl
theorem nest_law {s : List UInt8} {b : XB} (hq : Lib.hasPrefix s [60, 63] = false) (hs : s.length ≤ 2000) (h : parseX s = .ok b) (h0 : ∀ e, b.elems[0]? = some e → e.up = -1) : ∀ k, k ≤ 110 →
    (b.most + k ≤ 100 → ∃ b', parseX (wrapN k s) = .ok b' ∧ b'.most = b.most + k ∧ Nested k b.elems b'.elems) ∧ (100 < b.most + k → b.most ≤ 100 → Deep (wrapN k s))
  | 0, _ => ⟨fun _ => ⟨b, h, rfl, rfl, fun j e hj he => by
      obtain rfl : j = 0 := by omega
      rw [h0 e he]; rfl, fun j e hj => by omega, rfl⟩, fun h h' => by omega⟩
  | k + 1, hk => by
    obtain ⟨g1, g2⟩ := nest_law hq hs h h0 k (by omega)
    have hl := wrapN_len k s
    refine ⟨fun hm => ?_, fun hm hb => ?_⟩
    · obtain ⟨b', k1, k2, k3⟩ := g1 (by omega)
      obtain ⟨x, k4⟩ := (parse_wrap (wrapN_hp hq k) (by omega) k1).1 (by omega)
      exact ⟨_, k4, by show b'.most + 1 = _; omega, nested_more k3⟩
    · by_cases hd : b.most + k ≤ 100
      · obtain ⟨b', k1, k2, k3⟩ := g1 hd
        exact (parse_wrap (wrapN_hp hq k) (by omega) k1).2 (by omega)
      · exact deep_wrap (wrapN_hp hq k) (by omega) (g2 (by omega) hb)
end Go.Proofs.Ytajnpmhgldfgfaa
namespace Go.Proofs.Ytajnpmhgldfgfaa
open Go.RowKit
set_option linter.unusedVariables false

def upsX (l : List XL) : List Int := l.map (·.up)
/-- One is reached from another one by going up. -/
inductive Anc (ups : List Int) : Nat → Nat → Prop where
  | refl (i : Nat) : Anc ups i i
  | up (i j k : Nat) : ups[i]? = some (j : Int) → Anc ups j k → Anc ups i k
theorem Anc.trans {ups : List Int} {i j k : Nat} (h : Anc ups i j) (g : Anc ups j k) : Anc ups i k := by
  induction h with
  | refl _ => exact g
  | up i j _ h1 _ ih => exact .up i j _ h1 (ih g)
theorem get_more {α : Type} {l : List α} {i : Nat} {x : α} (y : List α) (h : l[i]? = some x) : (l ++ y)[i]? = some x := by
  rw [List.getElem?_append_left (List.getElem?_eq_some_iff.1 h).1, h]
theorem Anc.more {ups : List Int} {i k : Nat} (y : List Int) (h : Anc ups i k) : Anc (ups ++ y) i k := by
  induction h with
  | refl _ => exact .refl _
  | up i j _ h1 _ ih => exact .up i j _ (get_more y h1) ih
/-- Those that are open, each within the next one. -/
inductive Line (ups : List Int) : List Nat → Prop where
  | nil : Line ups []
  | one (u : Nat) : ups[u]? = some (-1) → Line ups [u]
  | more (u v : Nat) (r : List Nat) : ups[u]? = some (v : Int) → Line ups (v :: r) → Line ups (u :: v :: r)
theorem Line.more' {ups : List Int} {o : List Nat} (y : List Int) (h : Line ups o) : Line (ups ++ y) o := by
  induction h with
  | nil => exact .nil
  | one u h => exact .one u (get_more y h)
  | more u v r h _ ih => exact .more u v r (get_more y h) ih
def kidsOf (ups : List Int) (i : Nat) : List Nat := (List.range ups.length).filter fun k => decide (ups[k]? = some (i : Int))
theorem kidsOf_more (ups : List Int) (x : Int) (i : Nat) : kidsOf (ups ++ [x]) i = kidsOf ups i ++ if x = (i : Int) then [ups.length] else [] := by
  unfold kidsOf
  rw [List.length_append, List.length_singleton, List.range_succ, List.filter_append]
  congr 1
  · apply List.filter_congr
    intro k hk
    rw [List.getElem?_append_left (List.mem_range.1 hk)]
  · rw [List.filter_cons]
    simp
theorem atX_ups {g : XL → XL} (hg : ∀ e, (g e).up = e.up) : ∀ (l : List XL) (k : Nat), upsX (atX g l k) = upsX l
  | [], _ => rfl
  | e :: l, 0 => by simp [atX, upsX, hg]
  | e :: l, k + 1 => by simpa [atX, upsX] using atX_ups hg l k
theorem atX_at (g : XL → XL) : ∀ (l : List XL) (k i : Nat), (atX g l k)[i]? = if i = k then (l[i]?).map g else l[i]?
  | [], k, i => by simp [atX]
  | e :: l, 0, 0 => by simp [atX]
  | e :: l, 0, i + 1 => by simp [atX]
  | e :: l, k + 1, 0 => by simp [atX]
  | e :: l, k + 1, i + 1 => by simpa [atX] using atX_at g l k i
/-- How a document lies that is being made; and how deep each element is. -/
structure Fine (b : XB) (D : List Nat) : Prop where
  len : D.length = b.elems.length
  shape : ∀ i, i < b.elems.length → (i = 0 ∧ (upsX b.elems)[i]? = some (-1) ∧ D[i]? = some 1) ∨ ∃ u : Nat, u < i ∧ (upsX b.elems)[i]? = some (u : Int) ∧ Anc (upsX b.elems) (i - 1) u ∧ ∃ d, D[u]? = some d ∧ D[i]? = some (d + 1)
  anc : ∀ u r, b.opened = u :: r → Anc (upsX b.elems) (b.elems.length - 1) u
  line : Line (upsX b.elems) b.opened
  deep : ∀ j u, b.opened[j]? = some u → D[u]? = some (b.opened.length - j)
  le : ∀ d ∈ D, d ≤ b.most
  mem : b.elems ≠ [] → b.most ∈ D
  kids : ∀ i e, b.elems[i]? = some e → e.kids = kidsOf (upsX b.elems) i
  zero : b.elems = [] → b.most = 0
theorem b0_fine : Fine b0X [] :=
  ⟨rfl, fun i h => absurd h (Nat.not_lt_zero _), (fun u r h => nomatch h), .nil, (fun j u h => by simp [b0X] at h), (fun d h => nomatch h), fun h => absurd rfl h, (fun i e h => by simp [b0X] at h), fun _ => rfl⟩
theorem upsX_len (l : List XL) : (upsX l).length = l.length := List.length_map _
theorem Fine.small {b : XB} {D : List Nat} (h : Fine b D) {i k : Nat} (hk : (upsX b.elems)[k]? = some (i : Int)) : i < k := by
  have hl := (List.getElem?_eq_some_iff.1 hk).1
  rw [upsX_len] at hl
  rcases h.shape k hl with ⟨-, g, -⟩ | ⟨u, g1, g2, -⟩
  · rw [g] at hk
    have := Option.some.inj hk
    omega
  · rw [g2] at hk
    have := Option.some.inj hk
    omega
theorem Fine.text {b : XB} {D : List Nat} (h : Fine b D) (x : List UInt8) (u : Nat) : Fine { b with elems := atX (addText x) b.elems u } D := by
  have hu : upsX (atX (addText x) b.elems u) = upsX b.elems := atX_ups (g := addText x) (fun e => rfl) _ _
  have hl : (atX (addText x) b.elems u).length = b.elems.length := atX_len _ _ _
  obtain ⟨h1, h2, h3, h4, h5, h6, h7, h8, h9⟩ := h
  refine ⟨by rw [h1]; exact hl.symm, ?_, ?_, ?_, h5, h6, fun e => h7 (fun g => e (atX_nil.2 g)), fun i e he => ?_, fun e => h9 (atX_nil.1 e)⟩
  · simp only [hu, hl]; exact h2
  · simp only [hu, hl]; exact h3
  · simp only [hu]; exact h4
  · simp only [hu]
    simp only [] at he
    rw [atX_at] at he
    split at he
    · cases hb : b.elems[i]? with
      | none => rw [hb] at he; cases he
      | some y => rw [hb] at he; cases he; exact h8 i y hb
    · exact h8 i e he
theorem Fine.close {b : XB} {D : List Nat} {u : Nat} {r : List Nat} (h : Fine b D) (ho : b.opened = u :: r) : Fine { b with opened := r } D := by
  obtain ⟨h1, h2, h3, h4, h5, h6, h7, h8, h9⟩ := h
  have ha := h3 u r ho
  rw [ho] at h4
  refine ⟨h1, h2, ?_, ?_, ?_, h6, h7, h8, h9⟩
  · intro v r' hr
    simp only [] at hr
    subst hr
    cases h4 with
    | more _ _ _ g _ => exact ha.trans (.up u v v g (.refl _))
  · cases h4 with
    | one _ _ => exact .nil
    | more _ _ _ _ g => exact g
  · intro j v hj
    have := h5 (j + 1) v (by rw [ho]; simpa using hj)
    rw [this, ho, List.length_cons, Nat.add_sub_add_right]
theorem kidX_ups (l : List XL) (o : List Nat) : upsX (kidX l o) = upsX l := by
  unfold kidX; split
  · rfl
  · exact atX_ups (g := addKid l.length) (fun e => rfl) _ _
theorem kidX_len (l : List XL) (o : List Nat) : (kidX l o).length = l.length := by
  unfold kidX; split
  · rfl
  · exact atX_len _ _ _
theorem Fine.begin {b c : XB} {D : List Nat} {t : XT} (h : Fine b D) (hb : BOk b) (hc : beginX b t = .ok c) : Fine c (D ++ [b.opened.length + 1]) := by
  unfold beginX at hc
  by_cases g1 : b.opened = [] ∧ 0 < b.elems.length
  · rw [if_pos g1] at hc; cases hc
  rw [if_neg g1] at hc
  by_cases g2 : 100 ≤ b.opened.length ∨ 10000 ≤ b.elems.length
  · rw [if_pos g2] at hc; cases hc
  rw [if_neg g2] at hc
  cases hc
  have hs : ∀ {i k : Nat}, (upsX b.elems)[k]? = some (i : Int) → i < k := fun g => h.small g
  obtain ⟨h1, h2, h3, h4, h5, h6, h7, h8, h9⟩ := h
  have hu : upsX (kidX b.elems b.opened ++ [(⟨t.name, t.place, upX b.opened, t.attrs, [], []⟩ : XL)]) = upsX b.elems ++ [upX b.opened] := by
    show List.map _ _ = _
    rw [List.map_append]
    show upsX (kidX b.elems b.opened) ++ _ = _
    rw [kidX_ups]; rfl
  have hl : (kidX b.elems b.opened ++ [(⟨t.name, t.place, upX b.opened, t.attrs, [], []⟩ : XL)]).length = b.elems.length + 1 := by
    rw [List.length_append, kidX_len]; rfl
  have hul := upsX_len b.elems
  have hlast : (upsX b.elems ++ [upX b.opened])[b.elems.length]? = some (upX b.opened) := by
    rw [← hul]; simp
  have hDl : (D ++ [b.opened.length + 1])[b.elems.length]? = some (b.opened.length + 1) := by
    rw [← h1]; simp
  have hfirst : b.opened = [] → b.elems = [] := fun e => Classical.byContradiction fun g => g1 ⟨e, List.length_pos_iff.2 g⟩
  have hltn : ∀ u r, b.opened = u :: r → u < b.elems.length := fun u r e => by
    have := h5 0 u (by rw [e]; rfl)
    rw [← h1]; exact (List.getElem?_eq_some_iff.1 this).1
  refine ⟨by rw [hl, List.length_append, h1]; rfl, ?_, ?_, ?_, ?_, ?_, ?_, ?_, fun e => by simp at e⟩
  · simp only [hu, hl]
    intro i hi
    by_cases hin : i < b.elems.length
    · rcases h2 i hin with ⟨k1, k2, k3⟩ | ⟨u, k1, k2, k3, d, k4, k5⟩
      · exact .inl ⟨k1, get_more _ k2, get_more _ k3⟩
      · exact .inr ⟨u, k1, get_more _ k2, k3.more _, d, get_more _ k4, get_more _ k5⟩
    · obtain rfl : i = b.elems.length := by omega
      rw [hlast, hDl]
      cases ho : b.opened with
      | nil =>
        left
        rw [hfirst ho]
        exact ⟨rfl, rfl, rfl⟩
      | cons u r =>
        right
        refine ⟨u, hltn u r ho, rfl, (h3 u r ho).more _, (u :: r).length, get_more _ ?_, rfl⟩
        rw [h5 0 u (by rw [ho]; rfl), ho]; rfl
  · simp only [hu, hl]
    intro u r ho
    rw [Nat.add_sub_cancel]
    by_cases he : t.empty = true
    · rw [if_pos he] at ho
      refine .up _ u u ?_ (.refl _)
      rw [hlast, ho]; rfl
    · rw [if_neg he] at ho
      cases ho
      exact .refl _
  · simp only [hu]
    by_cases he : t.empty = true
    · rw [if_pos he]; exact h4.more' _
    · rw [if_neg he]
      cases ho : b.opened with
      | nil => exact .one _ (by rw [← ho, hlast, ho]; rfl)
      | cons u r => exact .more _ _ _ (by rw [← ho, hlast, ho]; rfl) (by rw [← ho]; exact h4.more' _)
  · simp only []
    intro j u hj
    by_cases he : t.empty = true
    · rw [if_pos he] at hj ⊢
      exact get_more _ (h5 j u hj)
    · rw [if_neg he] at hj ⊢
      cases j with
      | zero =>
        simp at hj
        rw [← hj, hDl]; rfl
      | succ j =>
        simp at hj
        rw [get_more _ (h5 j u hj), List.length_cons, Nat.add_sub_add_right]
  · intro d hd
    rw [List.mem_append, List.mem_singleton] at hd
    show d ≤ max b.most (b.opened.length + 1)
    rcases hd with hd | rfl
    · have := h6 d hd; omega
    · exact Nat.le_max_right _ _
  · intro _
    show max b.most (b.opened.length + 1) ∈ _
    rw [List.mem_append, List.mem_singleton]
    by_cases hm : b.opened.length + 1 ≤ b.most
    · left
      rw [Nat.max_eq_left hm]
      apply h7
      intro e
      have := h9 e
      omega
    · right
      exact Nat.max_eq_right (by omega)
  · simp only [hu]
    intro i e he
    rw [kidsOf_more, hul]
    by_cases hin : i < b.elems.length
    · rw [List.getElem?_append_left (by rw [kidX_len]; exact hin)] at he
      cases ho : b.opened with
      | nil =>
        rw [ho] at he
        rw [h8 i e he]
        rw [if_neg (by show ¬ ((-1 : Int) = _); omega), List.append_nil]
      | cons u r =>
        rw [ho] at he
        simp only [kidX] at he
        rw [atX_at] at he
        show _ = _ ++ if ((u : Int) = (i : Int)) then _ else _
        by_cases hiu : i = u
        · rw [if_pos hiu] at he
          rw [if_pos (by rw [hiu])]
          cases hy : b.elems[i]? with
          | none => rw [hy] at he; cases he
          | some y =>
            rw [hy] at he
            cases he
            show y.kids ++ _ = _
            rw [h8 i y hy]
        · rw [if_neg hiu] at he
          rw [if_neg (by omega), List.append_nil]
          exact h8 i e he
    · have hil := (List.getElem?_eq_some_iff.1 he).1
      rw [hl] at hil
      obtain rfl : i = b.elems.length := by omega
      rw [List.getElem?_append_right (by rw [kidX_len]; exact Nat.le_refl _), kidX_len, Nat.sub_self] at he
      simp at he
      rw [← he]
      have hk : kidsOf (upsX b.elems) b.elems.length = [] := by
        unfold kidsOf
        rw [List.filter_eq_nil_iff]
        intro k hk hd
        rw [hul] at hk
        have := hs (of_decide_eq_true hd)
        have := List.mem_range.1 hk
        omega
      rw [hk]
      cases ho : b.opened with
      | nil => rw [if_neg (by show ¬ ((-1 : Int) = _); omega)]; rfl
      | cons u r =>
        have := hltn u r ho
        rw [if_neg (by show ¬ ((u : Int) = _); omega)]; rfl
end Go.Proofs.Ytajnpmhgldfgfaa
namespace Go.Proofs.Ytajnpmhgldfgfaa
open Go.RowKit
set_option linter.unusedVariables false

/-- What holds of a document that is being made. -/
structure Lies (b : XB) : Prop where
  ok : BOk b
  fine : ∃ D, Fine b D
  most : b.most ≤ 100
  size : b.elems.length ≤ 10000
theorem b0_lies : Lies b0X := ⟨b0_ok, ⟨[], b0_fine⟩, Nat.zero_le _, Nat.zero_le _⟩
theorem take_lies {b c : XB} {t : XT} (h : Lies b) (ht : takeX b t = .ok c) : Lies c := by
  have hok := (take_ok h.ok ht).1
  obtain ⟨h1, ⟨D, h2⟩, h3, h4⟩ := h
  unfold takeX at ht
  by_cases hk : t.kind = 1
  · rw [if_pos hk] at ht
    refine ⟨hok, ⟨_, h2.begin h1 ht⟩, ?_, ?_⟩
    all_goals
      unfold beginX at ht
      by_cases g1 : b.opened = [] ∧ 0 < b.elems.length
      · rw [if_pos g1] at ht; cases ht
      rw [if_neg g1] at ht
      by_cases g2 : 100 ≤ b.opened.length ∨ 10000 ≤ b.elems.length
      · rw [if_pos g2] at ht; cases ht
      rw [if_neg g2] at ht
      cases ht
    · exact Nat.max_le.2 ⟨h3, by omega⟩
    · simp only [List.length_append, kidX_len, List.length_singleton]
      omega
  rw [if_neg hk] at ht
  cases ho : b.opened with
  | nil =>
    rw [ho] at ht
    simp only [] at ht
    by_cases g : t.kind = 3
    · rw [if_pos g] at ht
      by_cases g2 : spacesX t.text = true
      · rw [if_pos g2] at ht
        cases ht
        exact ⟨h1, ⟨D, h2⟩, h3, h4⟩
      · rw [if_neg g2] at ht; cases ht
    · rw [if_neg g] at ht; cases ht
  | cons u r =>
    rw [ho] at ht
    simp only [] at ht
    by_cases g : t.kind = 3
    · rw [if_pos g] at ht
      cases ht
      have := h2.text t.text u
      rw [ho] at this
      exact ⟨hok, ⟨D, this⟩, h3, by simpa [atX_len] using h4⟩
    · rw [if_neg g] at ht
      by_cases g2 : (b.elems[u]?).map (·.name) = some t.name
      · rw [if_pos g2] at ht
        cases ht
        exact ⟨hok, ⟨D, h2.close ho⟩, h3, h4⟩
      · rw [if_neg g2] at ht; cases ht
theorem tree_lies : ∀ (l : List XT) {b c : XB}, Lies b → treeX l b = .ok c → Lies c
  | [], b, c, h, ht => by cases ht; exact h
  | t :: l, b, c, h, ht => by
    unfold treeX at ht
    cases hd : takeX b t with
    | none => rw [hd] at ht; cases ht
    | bad e => rw [hd] at ht; cases ht
    | ok d => rw [hd] at ht; exact tree_lies l (take_lies h hd) ht
theorem parse_lies {s : List UInt8} {b : XB} (h : parseX s = .ok b) : Lies b := by
  obtain ⟨l, -, ht, -, -⟩ := parse_ok h
  exact tree_lies l b0_lies ht
theorem Fine.root {b : XB} {D : List Nat} (h : Fine b D) : ∀ e, b.elems[0]? = some e → e.up = -1 := by
  intro e he
  have hl := (List.getElem?_eq_some_iff.1 he).1
  rcases h.shape 0 hl with ⟨-, g, -⟩ | ⟨u, g, -⟩
  · rw [upsX, List.getElem?_map, he] at g
    exact Option.some.inj g
  · omega
/-- The plain law of elements around a text. -/
theorem nest_whole {s : List UInt8} {b : XB} (hq : Lib.hasPrefix s [60, 63] = false) (hs : s.length ≤ 2000) (h : parseX s = .ok b) (k : Nat) (hk : k ≤ 110) :
    (b.most + k ≤ 100 → ∃ b', parseX (wrapN k s) = .ok b' ∧ b'.most = b.most + k ∧ Nested k b.elems b'.elems) ∧ (100 < b.most + k → ∃ a w, parseX (wrapN k s) = .bad ⟨2, a, w⟩) := by
  have hl := parse_lies h
  obtain ⟨D, hf⟩ := hl.fine
  obtain ⟨g1, g2⟩ := nest_law hq hs h hf.root k hk
  exact ⟨g1, fun hm => deep_parse (g2 hm hl.most)⟩
/-- A name that may stand behind the sign 60. -/
structure NameOk (b : UInt8) (m : List UInt8) : Prop where
  chars : charsX (b :: m) = none
  name : nameX (b :: m) = m.length + 1
  n33 : b ≠ 33
  n63 : b ≠ 63
  n47 : b ≠ 47
theorem NameOk.at62 {b : UInt8} {m : List UInt8} (h : NameOk b m) (r : List UInt8) : nameX (b :: m ++ 62 :: r) = m.length + 1 :=
  nameX_ahead r ((charsX_iff _).1 h.chars).1 h.name (by decide) (by decide)
theorem NameOk.at47 {b : UInt8} {m : List UInt8} (h : NameOk b m) (r : List UInt8) : nameX (b :: m ++ 47 :: r) = m.length + 1 :=
  nameX_ahead r ((charsX_iff _).1 h.chars).1 h.name (by decide) (by decide)
theorem chars_three {a b c : List UInt8} (ha : charsX a = none) (hb : charsX b = none) (hc : charsX c = none) : charsX (a ++ b ++ c) = none := charsX_app (charsX_app ha hb) hc
/-- The plain law of texts that are not closed. -/
theorem unclosed_law {s : List UInt8} {x : XB} {b : UInt8} {m : List UInt8} (hs : s.length ≤ 2000) (h : parseX s = .ok x) (hm : x.most < 100) (hn : NameOk b m) :
    (∃ a w, parseX (60 :: b :: m ++ [62] ++ s) = .bad ⟨11, a, w⟩) ∧ (∃ w, parseX (s ++ 60 :: 47 :: b :: m ++ [62]) = .bad ⟨11, s.length, w⟩) ∧ (∃ w, parseX (s ++ 60 :: b :: m ++ [47, 62]) = .bad ⟨11, s.length, w⟩) := by
  obtain ⟨l, h1, h2, h3, h4⟩ := parse_ok h
  obtain ⟨hc, hr⟩ := cut_runs h1
  have hlen := runs_len hr
  have c60 : charsX [60] = none := charsX_print (by decide)
  have c62 : charsX [62] = none := charsX_print (by decide)
  have c47 : charsX [60, 47] = none := charsX_print (by decide)
  have c76 : charsX [47, 62] = none := charsX_print (by decide)
  refine ⟨?_, ?_, ?_⟩
  · have hw : charsX (60 :: b :: m ++ [62] ++ s) = none := by
      have := charsX_app (chars_three c60 hn.chars c62) hc
      simpa using this
    rcases runs_open (f := 99999) hr hn.n33 hn.n63 hn.n47 hn.at62 with g | ⟨a, g⟩
    · have hcut := runs_cut hw g
      obtain ⟨g1, -⟩ := tree_within (q := b :: m) (d := m.length + 3) l (within_first _ _) b0_ok h2 (by show 0 + _ + 1 ≤ 10000; omega) (by show 0 + 1 ≤ 100; omega)
      obtain ⟨c, k1, k2⟩ := g1 (by omega)
      refine ⟨(60 :: b :: m ++ [62] ++ s).length, wEnd, ?_⟩
      unfold parseX
      rw [hcut]
      simp only [docX, treeX, take_first, k1]
      rw [if_pos (.inr (by rw [k2.opened]; simp))]
    · exact ⟨a, wOrder, by unfold parseX; rw [fails_cut hw g]⟩
  · have hw : charsX (s ++ 60 :: 47 :: b :: m ++ [62]) = none := by
      have := charsX_app hc (chars_three c47 hn.chars c62)
      simpa using this
    have hcut := runs_cut hw (runs_close hr hn.at62)
    refine ⟨wEnd, parse_bad hcut ?_⟩
    rw [treeX_app, h2]
    simp only [treeX, takeX, h4]
    rw [if_neg (by decide), if_neg (by decide)]
  · have hw : charsX (s ++ 60 :: b :: m ++ [47, 62]) = none := by
      have := charsX_app hc (chars_three c60 hn.chars c76)
      simpa using this
    have hcut := runs_cut hw (runs_more (f := 99999) hr hn.n33 hn.n63 hn.n47 (fun r => hn.at47 _))
    refine ⟨wRoot, parse_bad hcut ?_⟩
    rw [treeX_app, h2]
    simp only [treeX, takeX, beginX, h4]
    rw [if_pos trivial, if_pos ⟨trivial, List.length_pos_iff.2 h3⟩]
end Go.Proofs.Ytajnpmhgldfgfaa
