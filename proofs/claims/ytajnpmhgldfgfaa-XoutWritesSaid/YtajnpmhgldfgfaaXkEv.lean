/- What was escaped is read back: a value; no program in sight. -/
import Derived.Test.YtajnpmhgldfgfaaXkAL
namespace Go.Proofs.Ytajnpmhgldfgfaa
open Go.RowKit
set_option linter.unusedVariables false

def escB (q : Bool) (c : UInt8) : List UInt8 :=
  if c = 38 then [38, 97, 109, 112, 59] else if c = 60 then [38, 108, 116, 59] else if c = 62 then [38, 103, 116, 59] else if c = 13 then [38, 35, 49, 51, 59]
  else if q = true ∧ c = 34 then [38, 113, 117, 111, 116, 59] else if q = true ∧ c = 9 then [38, 35, 57, 59] else if q = true ∧ c = 10 then [38, 35, 49, 48, 59] else [c]
/-- A text as it may stand between elements, or between quotes. -/
def escX (q : Bool) (l : List UInt8) : List UInt8 := l.flatMap (escB q)
theorem escB_len (q : Bool) (c : UInt8) : (escB q c).length ≤ 6 := by
  unfold escB
  repeat' split
  all_goals simp
theorem escB_pos (q : Bool) (c : UInt8) : 1 ≤ (escB q c).length := by
  unfold escB
  repeat' split
  all_goals simp
theorem escX_nil (q : Bool) : escX q [] = [] := rfl
theorem escX_cons (q : Bool) (c : UInt8) (l : List UInt8) : escX q (c :: l) = escB q c ++ escX q l := by simp [escX]
theorem escX_append (q : Bool) (a b : List UInt8) : escX q (a ++ b) = escX q a ++ escX q b := by simp [escX]
theorem escX_len (q : Bool) : ∀ l, (escX q l).length ≤ 6 * l.length
  | [] => by simp [escX]
  | c :: l => by
    rw [escX_cons, List.length_append, List.length_cons]
    have := escB_len q c
    have := escX_len q l
    omega
/-- The references that Escape lays. -/
theorem ref_amp (t : List UInt8) : refX (38 :: 97 :: 109 :: 112 :: 59 :: t) = some ([38], 5) := by
  unfold refX
  have h : Lib.indexByte (38 :: 97 :: 109 :: 112 :: 59 :: t) 59 = ((4 : Nat) : Int) := indexByte_front [38, 97, 109, 112] t 59 (by decide)
  rw [h, if_neg (by omega)]
  rfl
theorem ref_lt (t : List UInt8) : refX (38 :: 108 :: 116 :: 59 :: t) = some ([60], 4) := by
  unfold refX
  have h : Lib.indexByte (38 :: 108 :: 116 :: 59 :: t) 59 = ((3 : Nat) : Int) := indexByte_front [38, 108, 116] t 59 (by decide)
  rw [h, if_neg (by omega)]
  rfl
theorem ref_gt (t : List UInt8) : refX (38 :: 103 :: 116 :: 59 :: t) = some ([62], 4) := by
  unfold refX
  have h : Lib.indexByte (38 :: 103 :: 116 :: 59 :: t) 59 = ((3 : Nat) : Int) := indexByte_front [38, 103, 116] t 59 (by decide)
  rw [h, if_neg (by omega)]
  rfl
theorem ref_cr (t : List UInt8) : refX (38 :: 35 :: 49 :: 51 :: 59 :: t) = some ([13], 5) := by
  unfold refX
  have h : Lib.indexByte (38 :: 35 :: 49 :: 51 :: 59 :: t) 59 = ((4 : Nat) : Int) := indexByte_front [38, 35, 49, 51] t 59 (by decide)
  rw [h, if_neg (by omega)]
  have : meantX [35, 49, 51] = some [13] := by decide
  simp [this]
theorem ref_quot (t : List UInt8) : refX (38 :: 113 :: 117 :: 111 :: 116 :: 59 :: t) = some ([34], 6) := by
  unfold refX
  have h : Lib.indexByte (38 :: 113 :: 117 :: 111 :: 116 :: 59 :: t) 59 = ((5 : Nat) : Int) := indexByte_front [38, 113, 117, 111, 116] t 59 (by decide)
  rw [h, if_neg (by omega)]
  rfl
theorem ref_tab (t : List UInt8) : refX (38 :: 35 :: 57 :: 59 :: t) = some ([9], 4) := by
  unfold refX
  have h : Lib.indexByte (38 :: 35 :: 57 :: 59 :: t) 59 = ((3 : Nat) : Int) := indexByte_front [38, 35, 57] t 59 (by decide)
  rw [h, if_neg (by omega)]
  have : meantX [35, 57] = some [9] := by decide
  simp [this]
theorem ref_nl (t : List UInt8) : refX (38 :: 35 :: 49 :: 48 :: 59 :: t) = some ([10], 5) := by
  unfold refX
  have h : Lib.indexByte (38 :: 35 :: 49 :: 48 :: 59 :: t) 59 = ((4 : Nat) : Int) := indexByte_front [38, 35, 49, 48] t 59 (by decide)
  rw [h, if_neg (by omega)]
  have : meantX [35, 49, 48] = some [10] := by decide
  simp [this]
/-- One escaped byte: itself, or a reference that stands for it. -/
theorem escB_cases (q : Bool) (c : UInt8) : (escB q c = [c] ∧ c ≠ 38 ∧ c ≠ 60 ∧ c ≠ 62 ∧ c ≠ 13 ∧ (q = true → c ≠ 34 ∧ c ≠ 9 ∧ c ≠ 10)) ∨ (∃ r, escB q c = 38 :: r ∧ ∀ t, refX (38 :: (r ++ t)) = some ([c], r.length + 1)) := by
  by_cases h1 : c = 38
  · subst h1; exact .inr ⟨_, rfl, fun t => ref_amp t⟩
  by_cases h2 : c = 60
  · subst h2; exact .inr ⟨_, rfl, fun t => ref_lt t⟩
  by_cases h3 : c = 62
  · subst h3; exact .inr ⟨_, rfl, fun t => ref_gt t⟩
  by_cases h4 : c = 13
  · subst h4; exact .inr ⟨_, rfl, fun t => ref_cr t⟩
  cases q with
  | false => exact .inl ⟨by unfold escB; simp [h1, h2, h3, h4], h1, h2, h3, h4, fun e => by cases e⟩
  | true =>
    by_cases h5 : c = 34
    · subst h5; exact .inr ⟨_, rfl, fun t => ref_quot t⟩
    by_cases h6 : c = 9
    · subst h6; exact .inr ⟨_, rfl, fun t => ref_tab t⟩
    by_cases h7 : c = 10
    · subst h7; exact .inr ⟨_, rfl, fun t => ref_nl t⟩
    exact .inl ⟨by unfold escB; simp [h1, h2, h3, h4, h5, h6, h7], h1, h2, h3, h4, fun _ => ⟨h5, h6, h7⟩⟩
/-- A value between double quotes is read back. -/
theorem valueX_esc (ca : Nat) : ∀ (l : List UInt8) (f a : Nat) (acc t : List UInt8), l.length < f → valueX ca 34 f (escX true l ++ 34 :: t) a acc = .ok (acc ++ l, a + (escX true l).length + 1)
  | [], f, a, acc, t, hf => by
    cases f with
    | zero => simp at hf
    | succ f =>
      rw [escX_nil, List.nil_append, valueX]
      simp
  | c :: l, f, a, acc, t, hf => by
    cases f with
    | zero => simp at hf
    | succ f =>
      have ih := fun a acc => valueX_esc ca l f a acc t (by simp at hf; omega)
      rw [escX_cons, List.append_assoc]
      rcases escB_cases true c with ⟨h, n1, n2, n3, n4, n5⟩ | ⟨r, h, hr⟩
      · obtain ⟨n5, n6, n7⟩ := n5 rfl
        rw [h]
        show valueX ca 34 (f + 1) (c :: (escX true l ++ 34 :: t)) a acc = _
        rw [valueX]
        rw [if_neg n5, if_neg n2, if_neg n1, if_neg (fun e => n4 e.1), if_neg (by rintro (e | e | e) <;> contradiction), ih]
        simp
        omega
      · rw [h]
        show valueX ca 34 (f + 1) (38 :: (r ++ (escX true l ++ 34 :: t))) a acc = _
        rw [valueX]
        simp only []
        rw [if_neg (by decide), if_neg (by decide), if_pos trivial, hr]
        simp only []
        have e : (38 :: (r ++ (escX true l ++ 34 :: t))).drop (r.length + 1) = escX true l ++ 34 :: t := by simp
        rw [e, ih]
        simp
        omega
end Go.Proofs.Ytajnpmhgldfgfaa
