/- Texts that are written byte by byte (Escape's, and the law's own for single quotes): all characters of such a text are such that XML takes them just if those of the text are; a value is read back, words are read back; no program in sight. -/
import Derived.Test.YtajnpmhgldfgfaaXkEv
import Derived.Test.YtajnpmhgldfgfaaXkY
import Derived.Test.YtajnpmhgldfgfaaUtAB
namespace Go.Proofs.Ytajnpmhgldfgfaa
open Go.RowKit
set_option linter.unusedVariables false

/-- All of a text are characters, and such that XML takes them. -/
def Fit (l : List UInt8) : Prop := checkL l = l.length ∧ ∀ p ∈ runesL l, charR (p.1 : Int) = true
theorem runesAt_snd : ∀ (t : List (Nat × Nat)) (k : Nat), (runesAt k t).map (·.2) = t.map (·.1)
  | [], _ => rfl
  | (r, n) :: t, k => by simp [runesAt, runesAt_snd t]
theorem charsX_fit (l : List UInt8) : charsX l = none ↔ Fit l := by
  have hm : ∀ (P : Nat → Prop), (∀ p ∈ allRunes l, P p.2) ↔ (∀ p ∈ runesL l, P p.1) := by
    intro P
    have e := runesAt_snd (runesL l) 0
    have h1 : (∀ p ∈ allRunes l, P p.2) ↔ ∀ x ∈ (allRunes l).map (·.2), P x := List.forall_mem_map.symm
    have h2 : (∀ p ∈ runesL l, P p.1) ↔ ∀ x ∈ (runesL l).map (·.1), P x := List.forall_mem_map.symm
    rw [h1, h2, show (allRunes l).map (·.2) = (runesL l).map (·.1) from e]
  unfold charsX Fit
  by_cases h : checkL l = l.length
  · rw [if_neg (fun hn => hn h)]
    rw [← hm (fun r => charR (r : Int) = true)]
    cases hf : (allRunes l).find? (fun p => !charR (p.2 : Int)) with
    | none =>
      simp only [true_iff]
      refine ⟨h, fun p hp => ?_⟩
      have := List.find?_eq_none.1 hf p hp
      simpa using this
    | some p =>
      simp only [reduceCtorEq, false_iff]
      rintro ⟨_, ha⟩
      have h1 := List.find?_some hf
      have h2 := ha p (List.mem_of_find?_eq_some hf)
      rw [h2] at h1
      cases h1
  · rw [if_pos h]
    simp [h]
theorem fit_some {l : List UInt8} {r n : Nat} (h : nextL l = some (r, n)) : Fit l ↔ (charR (r : Int) = true ∧ Fit (l.drop n)) := by
  have hb := nextL_bd h
  unfold Fit
  rw [checkL_some h, runesL_some h]
  simp only [List.length_drop, List.mem_cons, forall_eq_or_imp]
  constructor
  · rintro ⟨h1, h2, h3⟩; exact ⟨h2, by omega, h3⟩
  · rintro ⟨h2, h1, h3⟩; exact ⟨by omega, h2, h3⟩
theorem fit_nil : Fit [] := ⟨checkL_none nextL_nil, by rw [runesL_none nextL_nil]; simp⟩
theorem fit_none {l : List UInt8} (h : nextL l = none) (hl : l ≠ []) : ¬ Fit l := by
  rintro ⟨h1, _⟩
  rw [checkL_none h] at h1
  exact hl (List.eq_nil_of_length_eq_zero h1.symm)
theorem fit_low {c : UInt8} (t : List UInt8) (h : c.toNat < 128) : Fit (c :: t) ↔ (charR (c.toNat : Int) = true ∧ Fit t) := by
  rw [fit_some (nextL_ascii t h)]; rfl
theorem fit_lows : ∀ (a t : List UInt8), (∀ d ∈ a, d.toNat < 128 ∧ charR (d.toNat : Int) = true) → (Fit (a ++ t) ↔ Fit t)
  | [], t, _ => Iff.rfl
  | c :: a, t, h => by
    have hc := h c (by simp)
    rw [List.cons_append, fit_low _ hc.1, fit_lows a t (fun d hd => h d (by simp [hd]))]
    simp [hc.2]

/-- A way to write bytes: what is no ASCII stays, what is ASCII stays or becomes print. -/
structure EncT (β : UInt8 → List UInt8) : Prop where
  high : ∀ c, 128 ≤ c.toNat → β c = [c]
  low : ∀ c, c.toNat < 128 → β c = [c] ∨ (charR (c.toNat : Int) = true ∧ β c ≠ [] ∧ ∀ d ∈ β c, 32 ≤ d.toNat ∧ d.toNat < 128)
def encX (β : UInt8 → List UInt8) (l : List UInt8) : List UInt8 := l.flatMap β
theorem encX_nil (β : UInt8 → List UInt8) : encX β [] = [] := rfl
theorem encX_cons (β : UInt8 → List UInt8) (c : UInt8) (l : List UInt8) : encX β (c :: l) = β c ++ encX β l := by simp [encX]
theorem encX_high {β : UInt8 → List UInt8} (H : EncT β) : ∀ (a b : List UInt8), (∀ d ∈ a, 128 ≤ d.toNat) → encX β (a ++ b) = a ++ encX β b
  | [], b, _ => rfl
  | c :: a, b, h => by
    rw [List.cons_append, encX_cons, H.high c (h c (by simp)), encX_high H a b (fun d hd => h d (by simp [hd]))]
    rfl
/-- Further bytes of a character. -/
def contsM (m : Nat) (l : List UInt8) (r : Nat) : Option Nat := if l.length < m then none else contsGo (l.take m) r
theorem contsM_zero (l : List UInt8) (r : Nat) : contsM 0 l r = some r := by simp [contsM, contsGo]
theorem contsM_nil (m r : Nat) : contsM (m + 1) [] r = none := by simp [contsM]
theorem contsM_cons (m : Nat) (c : UInt8) (l : List UInt8) (r : Nat) : contsM (m + 1) (c :: l) r = if c.toNat / 64 = 2 then contsM m l (r * 64 + c.toNat % 64) else none := by
  unfold contsM
  by_cases h : l.length < m
  · rw [if_pos (by simp; omega), if_pos h]; simp
  · rw [if_neg (by simp; omega), if_neg h, List.take_succ_cons]
    by_cases h2 : c.toNat / 64 = 2
    · rw [if_pos h2, contsGo_more h2]
    · rw [if_neg h2, contsGo_bad h2]
theorem contsM_high : ∀ (m : Nat) (l : List UInt8) (r q : Nat), contsM m l r = some q → m ≤ l.length ∧ ∀ d ∈ l.take m, 128 ≤ d.toNat
  | 0, l, r, q, _ => by simp
  | m + 1, [], r, q, h => by rw [contsM_nil] at h; cases h
  | m + 1, c :: l, r, q, h => by
    rw [contsM_cons] at h
    split at h
    · have ih := contsM_high m l _ q h
      refine ⟨by simp; omega, ?_⟩
      intro d hd
      rw [List.take_succ_cons, List.mem_cons] at hd
      rcases hd with rfl | hd
      · omega
      · exact ih.2 d hd
    · cases h
theorem nextL_conts {c : UInt8} {t : List UInt8} {n r : Nat} (hn : leadN c.toNat = (n + 1, r)) : nextL (c :: t) = (contsM n t r).bind fun q => if widthR q = ((n + 1 : Nat) : Int) then some (q, n + 1) else none := by
  rw [nextL_eq hn]
  unfold contsM
  by_cases h : t.length < n
  · rw [if_pos (.inr (by omega)), if_pos h]; rfl
  · rw [if_neg (by omega), if_neg h, List.take_succ_cons, List.drop_succ_cons, List.drop_zero]
    cases contsGo (t.take n) r <;> rfl
theorem nextL_zero {c : UInt8} {t : List UInt8} {r : Nat} (hn : leadN c.toNat = (0, r)) : nextL (c :: t) = none := nextL_short (.inl (by rw [hn]))
/-- What may stand behind: nothing, or what begins with ASCII. -/
def LowHead (z : List UInt8) : Prop := ∀ d, z.head? = some d → d.toNat < 128
theorem contsM_lowhead {z : List UInt8} (hz : LowHead z) (m r : Nat) : contsM (m + 1) z r = none := by
  cases z with
  | nil => exact contsM_nil m r
  | cons d z =>
    have := hz d rfl
    rw [contsM_cons, if_neg (by omega)]
theorem contsM_enc {β : UInt8 → List UInt8} (H : EncT β) {z : List UInt8} (hz : LowHead z) : ∀ (m : Nat) (t : List UInt8) (r : Nat), contsM m (encX β t ++ z) r = contsM m t r
  | 0, t, r => by rw [contsM_zero, contsM_zero]
  | m + 1, [], r => by rw [encX_nil, List.nil_append, contsM_lowhead hz, contsM_nil]
  | m + 1, c :: t, r => by
    rw [encX_cons]
    by_cases hc : 128 ≤ c.toNat
    · rw [H.high c hc]
      show contsM (m + 1) (c :: (encX β t ++ z)) r = _
      rw [contsM_cons, contsM_cons, contsM_enc H hz m t]
    · rw [contsM_cons m c t, if_neg (by omega)]
      rcases H.low c (by omega) with h | ⟨_, hne, h⟩
      · rw [h]
        show contsM (m + 1) (c :: (encX β t ++ z)) r = _
        rw [contsM_cons, if_neg (by omega)]
      · obtain ⟨d, x, hd⟩ := List.exists_cons_of_ne_nil hne
        have := h d (by rw [hd]; simp)
        rw [hd]
        show contsM (m + 1) (d :: (x ++ encX β t ++ z)) r = _
        rw [contsM_cons, if_neg (by omega)]
theorem nextL_enc {β : UInt8 → List UInt8} (H : EncT β) {z : List UInt8} (hz : LowHead z) (c : UInt8) (t : List UInt8) : nextL (c :: (encX β t ++ z)) = nextL (c :: t) := by
  obtain ⟨n, r, hn⟩ : ∃ n r, leadN c.toNat = (n, r) := ⟨_, _, rfl⟩
  cases n with
  | zero => rw [nextL_zero hn, nextL_zero hn]
  | succ n => rw [nextL_conts hn, nextL_conts hn, contsM_enc H hz]
theorem nextL_high {c : UInt8} {t : List UInt8} {r n : Nat} (hc : 128 ≤ c.toNat) (h : nextL (c :: t) = some (r, n)) : ∀ d ∈ (c :: t).take n, 128 ≤ d.toNat := by
  obtain ⟨m, x, hn⟩ : ∃ n r, leadN c.toNat = (n, r) := ⟨_, _, rfl⟩
  cases m with
  | zero => rw [nextL_zero hn] at h; cases h
  | succ m =>
    rw [nextL_conts hn] at h
    cases hq : contsM m t x with
    | none => rw [hq] at h; cases h
    | some q =>
      rw [hq] at h
      simp only [Option.bind_some] at h
      split at h
      · simp only [Option.some.injEq, Prod.mk.injEq] at h
        obtain ⟨rfl, rfl⟩ := h
        intro d hd
        rw [List.take_succ_cons, List.mem_cons] at hd
        rcases hd with rfl | hd
        · exact hc
        · exact (contsM_high m t x _ hq).2 d hd
      · cases h
theorem fit_enc {β : UInt8 → List UInt8} (H : EncT β) {z : List UInt8} (hz : LowHead z) : ∀ (k : Nat) (v : List UInt8), v.length ≤ k → (Fit (encX β v ++ z) ↔ (Fit v ∧ Fit z))
  | _, [], _ => by rw [encX_nil, List.nil_append]; simp [fit_nil]
  | 0, c :: t, h => by simp at h
  | k + 1, c :: t, h => by
    by_cases hc : 128 ≤ c.toNat
    · rw [encX_cons, H.high c hc]
      show Fit (c :: (encX β t ++ z)) ↔ _
      have he := nextL_enc H hz c t
      cases hn : nextL (c :: t) with
      | none =>
        rw [hn] at he
        constructor
        · intro h; exact absurd h (fit_none he (by simp))
        · rintro ⟨h, _⟩; exact absurd h (fit_none hn (by simp))
      | some p =>
        obtain ⟨r, n⟩ := p
        rw [hn] at he
        have hb := nextL_bd hn
        have hh := nextL_high hc hn
        rw [fit_some he, fit_some hn]
        have hs : c :: (encX β t ++ z) = (c :: t).take n ++ (encX β ((c :: t).drop n) ++ z) := by
          have h1 : encX β (c :: t) = (c :: t).take n ++ encX β ((c :: t).drop n) := by
            rw [← encX_high H _ _ hh, List.take_append_drop]
          rw [← List.append_assoc, ← h1, encX_cons, H.high c hc]
          rfl
        have hd : (c :: (encX β t ++ z)).drop n = encX β ((c :: t).drop n) ++ z := by
          rw [hs, List.drop_append_of_le_length (by simp at hb ⊢; omega), List.drop_of_length_le (by rw [List.length_take]; exact Nat.min_le_left _ _), List.nil_append]
        rw [hd, fit_enc H hz k ((c :: t).drop n) (by simp at h ⊢; omega), and_assoc]
    · rw [encX_cons, fit_low t (by omega)]
      have ih := fit_enc H hz k t (by simp at h; omega)
      rcases H.low c (by omega) with e | ⟨e1, e2, e3⟩
      · rw [e]
        show Fit (c :: (encX β t ++ z)) ↔ _
        rw [fit_low _ (by omega), ih, and_assoc]
      · rw [List.append_assoc, fit_lows _ _ (fun d hd => ⟨(e3 d hd).2, charR_print (e3 d hd).1 (e3 d hd).2⟩), ih]
        simp [e1]

/-- Between quotes q: a byte as it is, if it says nothing there, or a reference that stands for it. -/
structure EncV (β : UInt8 → List UInt8) (q : UInt8) : Prop where
  quote : q ≠ 38
  step : ∀ c, (β c = [c] ∧ c ≠ q ∧ c ≠ 38 ∧ c ≠ 60 ∧ c ≠ 13 ∧ c ≠ 9 ∧ c ≠ 10) ∨ (∃ r, β c = 38 :: r ∧ ∀ t, refX (38 :: (r ++ t)) = some ([c], r.length + 1))
theorem valueX_enc {β : UInt8 → List UInt8} {q : UInt8} (H : EncV β q) (ca : Nat) : ∀ (l : List UInt8) (f a : Nat) (acc t : List UInt8), l.length < f → valueX ca q f (encX β l ++ q :: t) a acc = .ok (acc ++ l, a + (encX β l).length + 1)
  | [], f, a, acc, t, hf => by
    cases f with
    | zero => simp at hf
    | succ f =>
      rw [encX_nil, List.nil_append, valueX]
      simp
  | c :: l, f, a, acc, t, hf => by
    cases f with
    | zero => simp at hf
    | succ f =>
      have ih := fun a acc => valueX_enc H ca l f a acc t (by simp at hf; omega)
      rw [encX_cons, List.append_assoc]
      rcases H.step c with ⟨h, n5, n1, n2, n4, n6, n7⟩ | ⟨r, h, hr⟩
      · rw [h]
        show valueX ca q (f + 1) (c :: (encX β l ++ q :: t)) a acc = _
        rw [valueX]
        rw [if_neg n5, if_neg n2, if_neg n1, if_neg (fun e => n4 e.1), if_neg (by rintro (e | e | e) <;> contradiction), ih]
        simp
        omega
      · rw [h]
        show valueX ca q (f + 1) (38 :: (r ++ (encX β l ++ q :: t))) a acc = _
        rw [valueX]
        simp only []
        rw [if_neg (fun e => H.quote e.symm), if_neg (by decide), if_pos trivial, hr]
        simp only []
        have e : (38 :: (r ++ (encX β l ++ q :: t))).drop (r.length + 1) = encX β l ++ q :: t := by simp
        rw [e, ih]
        simp
        omega

/-- Escape's ways. -/
theorem escB_T (q : Bool) : EncT (escB q) where
  high := fun c hc => by
    rcases escB_cases q c with h | ⟨r, h, hr⟩
    · exact h.1
    · unfold escB at h ⊢
      repeat' split at h
      all_goals first
        | (rename_i e; subst e; exact absurd hc (by decide))
        | (rename_i e; obtain ⟨_, rfl⟩ := e; exact absurd hc (by decide))
        | (simp only [List.cons.injEq] at h; obtain ⟨rfl, _⟩ := h; exact absurd hc (by decide))
  low := fun c hc => by
    by_cases h1 : c = 38
    · subst h1; exact .inr (by cases q <;> decide)
    by_cases h2 : c = 60
    · subst h2; exact .inr (by cases q <;> decide)
    by_cases h3 : c = 62
    · subst h3; exact .inr (by cases q <;> decide)
    by_cases h4 : c = 13
    · subst h4; exact .inr (by cases q <;> decide)
    by_cases h5 : c = 34
    · subst h5; exact (by cases q; exact .inl (by decide); exact .inr (by decide))
    by_cases h6 : c = 9
    · subst h6; exact (by cases q; exact .inl (by decide); exact .inr (by decide))
    by_cases h7 : c = 10
    · subst h7; exact (by cases q; exact .inl (by decide); exact .inr (by decide))
    exact .inl (by unfold escB; simp [h1, h2, h3, h4, h5, h6, h7])
theorem escB_V : EncV (escB true) 34 where
  quote := by decide
  step := fun c => by
    rcases escB_cases true c with ⟨h, n1, n2, n3, n4, n5⟩ | h
    · obtain ⟨n5, n6, n7⟩ := n5 rfl
      exact .inl ⟨h, n5, n1, n2, n4, n6, n7⟩
    · exact .inr h
/-- The law's own way for single quotes: what Escape wrote, with a reference for each single quote. -/
def apoB (c : UInt8) : List UInt8 := if c = 39 then [38, 97, 112, 111, 115, 59] else [c]
def escA (c : UInt8) : List UInt8 := if c = 39 then [38, 97, 112, 111, 115, 59] else escB true c
theorem apo_esc (l : List UInt8) : encX apoB (escX true l) = encX escA l := by
  have hb : ∀ c, encX apoB (escB true c) = escA c := by
    intro c
    by_cases h1 : c = 38
    · subst h1; decide
    by_cases h2 : c = 60
    · subst h2; decide
    by_cases h3 : c = 62
    · subst h3; decide
    by_cases h4 : c = 13
    · subst h4; decide
    by_cases h5 : c = 34
    · subst h5; decide
    by_cases h6 : c = 9
    · subst h6; decide
    by_cases h7 : c = 10
    · subst h7; decide
    have he : escB true c = [c] := by unfold escB; simp [h1, h2, h3, h4, h5, h6, h7]
    rw [he]
    unfold escA
    by_cases h8 : c = 39
    · subst h8; rfl
    · rw [if_neg h8, he]
      simp [encX, apoB, h8]
  induction l with
  | nil => rfl
  | cons c l ih =>
    rw [escX_cons, encX_cons, ← hb c, ← ih]
    simp [encX]
theorem escA_T : EncT escA where
  high := fun c hc => by
    unfold escA
    by_cases h : c = 39
    · subst h; exact absurd hc (by decide)
    · rw [if_neg h]; exact (escB_T true).high c hc
  low := fun c hc => by
    unfold escA
    by_cases h : c = 39
    · subst h; exact .inr (by decide)
    · rw [if_neg h]; exact (escB_T true).low c hc
theorem ref_apos (t : List UInt8) : refX (38 :: 97 :: 112 :: 111 :: 115 :: 59 :: t) = some ([39], 6) := by
  unfold refX
  have h : Lib.indexByte (38 :: 97 :: 112 :: 111 :: 115 :: 59 :: t) 59 = ((5 : Nat) : Int) := indexByte_front [38, 97, 112, 111, 115] t 59 (by decide)
  rw [h, if_neg (by omega)]
  rfl
theorem escA_V : EncV escA 39 where
  quote := by decide
  step := fun c => by
    unfold escA
    by_cases h : c = 39
    · subst h; exact .inr ⟨_, rfl, fun t => ref_apos t⟩
    · rw [if_neg h]
      rcases escB_cases true c with ⟨h1, n1, n2, n3, n4, n5⟩ | h1
      · obtain ⟨n5, n6, n7⟩ := n5 rfl
        exact .inl ⟨h1, h, n1, n2, n4, n6, n7⟩
      · exact .inr h1
theorem escA_len (l : List UInt8) : (encX escA l).length ≤ 6 * l.length := by
  induction l with
  | nil => simp [encX]
  | cons c l ih =>
    have : (escA c).length ≤ 6 := by
      unfold escA; split
      · simp
      · exact escB_len true c
    rw [encX_cons, List.length_append, List.length_cons]
    omega

/-- Words without references. -/
theorem index_no13 (o : List UInt8) : ∀ (l : List UInt8), (∀ c ∈ l, c ≠ 13) → Lib.index l (13 :: o) = -1
  | [], _ => rfl
  | b :: l, h => by
    have hb : (13 : UInt8) ≠ b := fun e => h b (by simp) e.symm
    have ih := index_no13 o l (fun c hc => h c (by simp [hc]))
    unfold Lib.index
    rw [ih]
    simp [List.isPrefixOf, hb]
theorem replaceAll_no13 (o n : List UInt8) (l : List UInt8) (h : ∀ c ∈ l, c ≠ 13) : Lib.replaceAll l (13 :: o) n = l := by
  unfold Lib.replaceAll Lib.replace
  split
  · rfl
  · cases Lib.replaceNum l (13 :: o) (-1) with
    | zero => rfl
    | succ k =>
      rw [Lib.replaceK, index_no13 o l h]
      rfl
theorem linesX_no13 {l : List UInt8} (h : ∀ c ∈ l, c ≠ 13) : linesX l = l := by
  unfold linesX
  rw [replaceAll_no13 _ _ l h, replaceAll_no13 _ _ l h]
theorem escX_mem {c : UInt8} : ∀ {l : List UInt8}, c ∈ escX false l → c ≠ 13 ∧ c ≠ 60 ∧ c ≠ 62
  | [], h => by simp [escX] at h
  | b :: l, h => by
    rw [escX_cons, List.mem_append] at h
    rcases h with h | h
    · unfold escB at h
      repeat' split at h
      all_goals first
        | (rename_i e; cases e; done)
        | (simp only [List.mem_cons, List.not_mem_nil, or_false] at h; rcases h with rfl | rfl | rfl | rfl | rfl | rfl <;> decide)
        | (simp only [List.mem_cons, List.not_mem_nil, or_false] at h; rcases h with rfl | rfl | rfl | rfl | rfl <;> decide)
        | (simp only [List.mem_cons, List.not_mem_nil, or_false] at h; rcases h with rfl | rfl | rfl | rfl <;> decide)
        | (simp only [List.mem_cons, List.not_mem_nil, or_false] at h; subst h; exact ⟨by assumption, by assumption, by assumption⟩)
        | (rename_i e; exact absurd e.1 (by decide))
    · exact escX_mem h
/-- Up to the first '&' or ']' all stands as it is. -/
theorem esc_split : ∀ (l : List UInt8) (k : Nat), (Lib.indexAny (escX false l) [38, 93] = (k : Int) → k ≤ l.length ∧ (escX false l).take k = l.take k ∧ (escX false l).drop k = escX false (l.drop k))
  | [], k, h => by simp [escX, Lib.indexAny] at h
  | c :: l, 0, h => by simp
  | c :: l, k + 1, h => by
    rw [escX_cons] at h ⊢
    rcases escB_cases false c with ⟨e, n1, _⟩ | ⟨r, e, _⟩
    · rw [e] at h ⊢
      change Lib.indexAny (c :: escX false l) [38, 93] = _ at h
      rw [Lib.indexAny] at h
      split at h
      · omega
      split at h
      · omega
      have ih := esc_split l k (by omega)
      refine ⟨by simp; omega, ?_, ?_⟩
      · show (c :: escX false l).take (k + 1) = _
        rw [List.take_succ_cons, List.take_succ_cons, ih.2.1]
      · show (c :: escX false l).drop (k + 1) = _
        rw [List.drop_succ_cons, List.drop_succ_cons, ih.2.2]
    · rw [e] at h
      change Lib.indexAny (38 :: (r ++ escX false l)) [38, 93] = _ at h
      rw [Lib.indexAny, if_pos (by decide)] at h
      omega
theorem esc_none : ∀ (l : List UInt8), Lib.indexAny (escX false l) [38, 93] = -1 → escX false l = l
  | [], _ => rfl
  | c :: l, h => by
    rw [escX_cons] at h ⊢
    rcases escB_cases false c with ⟨e, n1, _⟩ | ⟨r, e, _⟩
    · rw [e] at h ⊢
      change Lib.indexAny (c :: escX false l) [38, 93] = _ at h
      rw [Lib.indexAny] at h
      split at h
      · omega
      split at h
      · rename_i h2
        show c :: escX false l = _
        rw [esc_none l (by simpa using h2)]
      · have := Lib.indexAny_ge [38, 93] (escX false l)
        omega
    · rw [e] at h
      change Lib.indexAny (38 :: (r ++ escX false l)) [38, 93] = _ at h
      rw [Lib.indexAny, if_pos (by decide)] at h
      omega
theorem wordsX_esc : ∀ (f : Nat) (l : List UInt8) (a : Nat) (acc : List UInt8), l.length < f → wordsX f (escX false l) a acc = .ok (acc ++ l)
  | 0, l, a, acc, hf => by simp at hf
  | f + 1, [], a, acc, hf => by rw [wordsX, escX_nil, if_pos rfl]; simp
  | f + 1, c :: l, a, acc, hf => by
    have hno : ∀ x ∈ escX false (c :: l), x ≠ 13 := fun x hx => (escX_mem hx).1
    have hne : escX false (c :: l) ≠ [] := by
      rw [escX_cons]
      have := escB_pos false c
      intro e
      have := congrArg List.length e
      rw [List.length_append, List.length_nil] at this
      omega
    rw [wordsX, if_neg hne]
    rcases indexAny_bd [38, 93] (escX false (c :: l)) with h | ⟨k, h, hk, d, hd, hdc⟩
    · rw [if_pos (by omega), linesX_no13 hno, esc_none _ h]
    · rw [if_neg (by omega)]
      by_cases hk0 : 0 < k
      · rw [if_pos (by omega)]
        obtain ⟨s1, s2, s3⟩ := esc_split _ k h
        have hkk : (Lib.indexAny (escX false (c :: l)) [38, 93]).toNat = k := by omega
        rw [hkk, linesX_no13 (fun x hx => hno x (List.mem_of_mem_take hx)), s2, s3, wordsX_esc f _ _ _ (by simp at hf s1 ⊢; omega)]
        rw [List.append_assoc, List.take_append_drop]
      · obtain rfl : k = 0 := by omega
        rw [if_neg (by omega)]
        rw [escX_cons] at hd ⊢
        rcases escB_cases false c with ⟨e, n1, n2, n3, n4, _⟩ | ⟨r, e, hr⟩
        · rw [e] at hd ⊢
          have hdc' : d = c := by simpa using hd.symm
          subst hdc'
          have h93 : d = 93 := by
            simp only [List.contains_cons, List.contains_nil, Bool.or_false, Bool.or_eq_true, beq_iff_eq] at hdc
            rcases hdc with e | e
            · exact absurd e n1
            · exact e
          subst h93
          rw [if_neg (by simp)]
          have hp : Lib.hasPrefix ([93] ++ escX false l) [93, 93, 62] = false := by
            cases hp : Lib.hasPrefix ([93] ++ escX false l) [93, 93, 62] with
            | false => rfl
            | true =>
              unfold Lib.hasPrefix at hp
              obtain ⟨x, hx⟩ := List.isPrefixOf_iff_prefix.1 hp
              have h62 : (62 : UInt8) ∈ escX false (93 :: l) := by
                rw [escX_cons, e, ← hx]; simp
              exact absurd rfl (escX_mem h62).2.2
          rw [hp]
          show wordsX f (escX false l) (a + 1) (acc ++ [93]) = _
          rw [wordsX_esc f l _ _ (by simp at hf; omega)]
          simp
        · rw [e]
          show (if (38 :: (r ++ escX false l))[0]? = some 38 then _ else _) = _
          rw [if_pos (by simp)]
          show (match refX (38 :: (r ++ escX false l)) with | none => _ | some (t, n) => wordsX f ((38 :: (r ++ escX false l)).drop n) (a + n) (acc ++ t)) = _
          rw [hr]
          show wordsX f ((38 :: (r ++ escX false l)).drop (r.length + 1)) _ (acc ++ [c]) = _
          have e2 : (38 :: (r ++ escX false l)).drop (r.length + 1) = escX false l := by simp
          rw [e2, wordsX_esc f l _ _ (by simp at hf; omega)]
          simp
end Go.Proofs.Ytajnpmhgldfgfaa
