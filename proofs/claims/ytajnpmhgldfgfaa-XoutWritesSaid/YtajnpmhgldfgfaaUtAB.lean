/- Plain facts about characters: what the functions of package utf compute; no program in sight. Plain laws on characters: whole texts together. -/
import Derived.WalkKit
import Derived.Laws.BitsAllLaws
namespace Go.Proofs.Ytajnpmhgldfgfaa
open Go.RowKit
set_option linter.unusedVariables false

def widthR (r : Int) : Int :=
  if r < 0 ∨ 1114112 ≤ r ∨ (55296 ≤ r ∧ r ≤ 57343) then 0 else if r < 128 then 1 else if r < 2048 then 2 else if r < 65536 then 3 else 4
def charR (r : Int) : Bool := decide (r = 9 ∨ r = 10 ∨ r = 13 ∨ (¬ (r < 32 ∨ r = 65534 ∨ r = 65535) ∧ 0 < widthR r))
def nameStartR (r : Int) : Bool :=
  decide ((97 ≤ r ∧ r ≤ 122) ∨ (65 ≤ r ∧ r ≤ 90) ∨ r = 95 ∨ r = 58 ∨ (¬ (r = 215 ∨ r = 247 ∨ r = 894) ∧ 192 ≤ r ∧ charR r = true))
def namePartR (r : Int) : Bool := decide (nameStartR r = true ∨ (48 ≤ r ∧ r ≤ 57) ∨ r = 45 ∨ r = 46 ∨ r = 183)
def spaceR (r : Int) : Bool := decide (r = 32 ∨ r = 9 ∨ r = 10 ∨ r = 13)
theorem widthR_zero {r : Int} (h : r < 0 ∨ 1114112 ≤ r ∨ (55296 ≤ r ∧ r ≤ 57343)) : widthR r = 0 := if_pos h
theorem widthR_pos {r : Int} (h : ¬ (r < 0 ∨ 1114112 ≤ r ∨ (55296 ≤ r ∧ r ≤ 57343))) : 0 < widthR r := by
  unfold widthR; rw [if_neg h]; split <;> (try split) <;> (try split) <;> omega
theorem widthR_bd (r : Int) : 0 ≤ widthR r ∧ widthR r ≤ 4 := by
  unfold widthR; split <;> (try split) <;> (try split) <;> (try split) <;> omega
theorem nameStart_part (r : Int) : nameStartR r = true → namePartR r = true := fun h => by unfold namePartR; simp [h]
theorem start_char (r : Int) (h : nameStartR r = true) : charR r = true := by
  unfold nameStartR at h
  simp only [decide_eq_true_eq] at h
  have hw : ¬ (r < 0 ∨ 1114112 ≤ r ∨ (55296 ≤ r ∧ r ≤ 57343)) → ¬ (r < 32 ∨ r = 65534 ∨ r = 65535) → charR r = true := fun h1 h2 => by
    unfold charR
    simp only [decide_eq_true_eq]
    exact .inr (.inr (.inr ⟨h2, widthR_pos h1⟩))
  rcases h with h | h | h | h | h
  · exact hw (by omega) (by omega)
  · exact hw (by omega) (by omega)
  · exact hw (by omega) (by omega)
  · exact hw (by omega) (by omega)
  · exact h.2.2
theorem part_char (r : Int) (h : namePartR r = true) : charR r = true := by
  unfold namePartR at h
  simp only [decide_eq_true_eq] at h
  have hw : ¬ (r < 0 ∨ 1114112 ≤ r ∨ (55296 ≤ r ∧ r ≤ 57343)) → ¬ (r < 32 ∨ r = 65534 ∨ r = 65535) → charR r = true := fun h1 h2 => by
    unfold charR
    simp only [decide_eq_true_eq]
    exact .inr (.inr (.inr ⟨h2, widthR_pos h1⟩))
  rcases h with h | h | h | h | h
  · exact start_char r h
  · exact hw (by omega) (by omega)
  · exact hw (by omega) (by omega)
  · exact hw (by omega) (by omega)
  · exact hw (by omega) (by omega)
theorem part_space (r : Int) (h : namePartR r = true) : spaceR r = false := by
  unfold namePartR nameStartR at h
  simp only [decide_eq_true_eq] at h
  unfold spaceR
  simp only [decide_eq_false_iff_not]
  omega
theorem space_char (r : Int) (h : spaceR r = true) : charR r = true := by
  unfold spaceR at h
  simp only [decide_eq_true_eq] at h
  unfold charR
  simp only [decide_eq_true_eq]
  rcases h with h | h | h | h
  · exact .inr (.inr (.inr ⟨by omega, widthR_pos (by omega)⟩))
  · exact .inl h
  · exact .inr (.inl h)
  · exact .inr (.inr (.inl h))

/-- What a first byte says: how many bytes, and its bits. -/
def leadN (c : Nat) : Nat × Nat :=
  if c < 128 then (1, c) else if c / 32 = 6 then (2, c % 32) else if c / 16 = 14 then (3, c % 16) else if c / 8 = 30 then (4, c % 8) else (0, 0)
def contsGo : List UInt8 → Nat → Option Nat
  | [], r => some r
  | c :: l, r => if c.toNat / 64 = 2 then contsGo l (r * 64 + c.toNat % 64) else none
/-- The first character: its number and width. -/
def nextL (l : List UInt8) : Option (Nat × Nat) :=
  match l with
  | [] => none
  | c :: t =>
    if (leadN c.toNat).1 = 0 ∨ l.length < (leadN c.toNat).1 then none else
    match contsGo ((l.take (leadN c.toNat).1).drop 1) (leadN c.toNat).2 with
    | none => none
    | some r => if widthR r = ((leadN c.toNat).1 : Int) then some (r, (leadN c.toNat).1) else none
def nextRes (o : Option (Nat × Nat)) : Value := match o with
  | some (r, n) => .tuple #[.int .i64 r, .int .i64 n]
  | none => .tuple #[.int .i64 0, .int .i64 0]
theorem leadN_bd (c : Nat) : (leadN c).1 ≤ 4 ∧ (c < 256 → (leadN c).2 < 128) := by
  unfold leadN; split <;> (try split) <;> (try split) <;> (try split) <;> simp <;> omega
theorem leadN_1 {c : Nat} (h : c < 128) : leadN c = (1, c) := if_pos h
theorem leadN_2 {c : Nat} (h : ¬ c < 128) (h2 : c / 32 = 6) : leadN c = (2, c % 32) := by rw [leadN, if_neg h, if_pos h2]
theorem leadN_3 {c : Nat} (h : ¬ c < 128) (h2 : ¬ c / 32 = 6) (h3 : c / 16 = 14) : leadN c = (3, c % 16) := by rw [leadN, if_neg h, if_neg h2, if_pos h3]
theorem leadN_4 {c : Nat} (h : ¬ c < 128) (h2 : ¬ c / 32 = 6) (h3 : ¬ c / 16 = 14) (h4 : c / 8 = 30) : leadN c = (4, c % 8) := by rw [leadN, if_neg h, if_neg h2, if_neg h3, if_pos h4]
theorem leadN_0 {c : Nat} (h : ¬ c < 128) (h2 : ¬ c / 32 = 6) (h3 : ¬ c / 16 = 14) (h4 : ¬ c / 8 = 30) : leadN c = (0, 0) := by rw [leadN, if_neg h, if_neg h2, if_neg h3, if_neg h4]
theorem contsGo_bad {c : UInt8} {l : List UInt8} {r : Nat} (h : ¬ c.toNat / 64 = 2) : contsGo (c :: l) r = none := if_neg h
theorem contsGo_more {c : UInt8} {l : List UInt8} {r : Nat} (h : c.toNat / 64 = 2) : contsGo (c :: l) r = contsGo l (r * 64 + c.toNat % 64) := if_pos h
theorem nextL_short {c : UInt8} {t : List UInt8} (h : (leadN c.toNat).1 = 0 ∨ t.length + 1 < (leadN c.toNat).1) : nextL (c :: t) = none := if_pos h
theorem nextL_none {c : UInt8} {t : List UInt8} {n r : Nat} (hn : leadN c.toNat = (n, r)) (h : n ≠ 0) (h2 : n ≤ t.length + 1) (h3 : contsGo (((c :: t).take n).drop 1) r = none) : nextL (c :: t) = none := by
  simp only [nextL, hn]
  rw [if_neg (by simp; omega), h3]
theorem nextL_some {c : UInt8} {t : List UInt8} {n r q : Nat} (hn : leadN c.toNat = (n, r)) (h : n ≠ 0) (h2 : n ≤ t.length + 1) (h3 : contsGo (((c :: t).take n).drop 1) r = some q) : nextL (c :: t) = if widthR q = (n : Int) then some (q, n) else none := by
  simp only [nextL, hn]
  rw [if_neg (by simp; omega), h3]
theorem i64_or_nat (a b : Nat) (ha : a < 9223372036854775808) (hb : b < 9223372036854775808) : bits .or .i64 (a : Int) (b : Int) = ((a ||| b : Nat) : Int) := by
  have hx : a ||| b < 2 ^ 63 := Nat.or_lt_two_pow (by omega) (by omega)
  show IntKind.i64.wrap ((BitVec.ofInt 64 (a : Int) ||| BitVec.ofInt 64 (b : Int)).toNat : Int) = _
  rw [BitVec.toNat_or, BitVec.toNat_ofInt, BitVec.toNat_ofInt, IntKind.wrap_i64]
  have e1 : ((a : Int) % ((2 ^ 64 : Nat) : Int)).toNat = a := by omega
  have e2 : ((b : Int) % ((2 ^ 64 : Nat) : Int)).toNat = b := by omega
  rw [e1, e2]
  omega
theorem or6 (r c : Nat) (hr : r < 140737488355328) : bits .or .i64 ((r : Int) * 64) ((c : Int) % 64) = ((r * 64 + c % 64 : Nat) : Int) := by
  have e1 : (r : Int) * 64 = ((r * 64 : Nat) : Int) := by omega
  have e2 : (c : Int) % 64 = ((c % 64 : Nat) : Int) := by omega
  rw [e1, e2, i64_or_nat _ _ (by omega) (by omega)]
  have h := Nat.two_pow_add_eq_or_of_lt (i := 6) (b := c % 64) (by omega) r
  rw [Nat.mul_comm r 64, show 64 = 2 ^ 6 from rfl, ← h]

theorem nextL_nil : nextL [] = none := rfl
theorem nextL_bd {l : List UInt8} {r n : Nat} (h : nextL l = some (r, n)) : 1 ≤ n ∧ n ≤ l.length ∧ n ≤ 4 ∧ widthR (r : Int) = (n : Int) := by
  cases l with
  | nil => cases h
  | cons c t =>
    by_cases h1 : (leadN c.toNat).1 = 0 ∨ t.length + 1 < (leadN c.toNat).1
    · rw [nextL_short h1] at h; cases h
    · have hb := (leadN_bd c.toNat).1
      cases h2 : contsGo (((c :: t).take (leadN c.toNat).1).drop 1) (leadN c.toNat).2 with
      | none => rw [nextL_none (n := (leadN c.toNat).1) (r := (leadN c.toNat).2) rfl (by omega) (by omega) h2] at h; cases h
      | some q =>
        rw [nextL_some (n := (leadN c.toNat).1) (r := (leadN c.toNat).2) rfl (by omega) (by omega) h2] at h
        split at h
        · rename_i hw
          simp only [Option.some.injEq, Prod.mk.injEq] at h
          obtain ⟨rfl, rfl⟩ := h
          exact ⟨by omega, by simp; omega, hb, hw⟩
        · cases h
/-- The characters, and the width of each, till the first place where none begins. -/
def runesL (l : List UInt8) : List (Nat × Nat) :=
  match h : nextL l with
  | none => []
  | some (r, n) => (r, n) :: runesL (l.drop n)
termination_by l.length
decreasing_by have := nextL_bd h; simp; omega
theorem runesL_none {l : List UInt8} (h : nextL l = none) : runesL l = [] := by
  rw [runesL]; split
  · rfl
  · rename_i h'; rw [h] at h'; cases h'
theorem runesL_some {l : List UInt8} {r n : Nat} (h : nextL l = some (r, n)) : runesL l = (r, n) :: runesL (l.drop n) := by
  rw [runesL]; split
  · rename_i h'; rw [h] at h'; cases h'
  · rename_i h'; rw [h] at h'
    simp only [Option.some.injEq, Prod.mk.injEq] at h'
    obtain ⟨rfl, rfl⟩ := h'
    rfl
/-- The first place where no character begins. -/
def checkL (l : List UInt8) : Nat := ((runesL l).map (·.2)).sum
theorem checkL_none {l : List UInt8} (h : nextL l = none) : checkL l = 0 := by rw [checkL, runesL_none h]; rfl
theorem checkL_some {l : List UInt8} {r n : Nat} (h : nextL l = some (r, n)) : checkL l = n + checkL (l.drop n) := by rw [checkL, runesL_some h]; rfl
theorem checkL_le : ∀ (k : Nat) (l : List UInt8), l.length ≤ k → checkL l ≤ l.length
  | 0, l, h => by
    obtain rfl : l = [] := List.eq_nil_of_length_eq_zero (by omega)
    rw [checkL_none rfl]; omega
  | k + 1, l, h => by
    cases hn : nextL l with
    | none => rw [checkL_none hn]; omega
    | some p =>
      obtain ⟨r, n⟩ := p
      have hb := nextL_bd hn
      have := checkL_le k (l.drop n) (by simp; omega)
      rw [checkL_some hn]
      simp at this; omega

/-- A character's bytes. -/
def putR (r : Nat) : List UInt8 :=
  if r < 128 then [UInt8.ofNat r] else if r < 2048 then [UInt8.ofNat (192 + r / 64), UInt8.ofNat (128 + r % 64)]
  else if r < 65536 then [UInt8.ofNat (224 + r / 4096), UInt8.ofNat (128 + r / 64 % 64), UInt8.ofNat (128 + r % 64)]
  else [UInt8.ofNat (240 + r / 262144), UInt8.ofNat (128 + r / 4096 % 64), UInt8.ofNat (128 + r / 64 % 64), UInt8.ofNat (128 + r % 64)]
theorem and63 (r : Nat) (h : r < 9223372036854775808) : bits .and .i64 (r : Int) 63 = (r : Int) % 64 := by
  show IntKind.i64.wrap ((BitVec.ofInt 64 (r : Int) &&& BitVec.ofInt 64 63).toNat : Int) = _
  rw [BitVec.toNat_and, BitVec.toNat_ofInt, IntKind.wrap_i64]
  have e1 : ((r : Int) % ((2 ^ 64 : Nat) : Int)).toNat = r := by omega
  have e2 : (BitVec.ofInt 64 63).toNat = 2 ^ 6 - 1 := by decide
  rw [e1, e2, Nat.and_two_pow_sub_one_eq_mod]
  omega
theorem or128 (r : Nat) : bits .or .i64 128 ((r : Int) % 64) = 128 + (r : Int) % 64 := by
  have e1 : (r : Int) % 64 = ((r % 64 : Nat) : Int) := by omega
  rw [e1, show (128 : Int) = ((128 : Nat) : Int) from rfl, i64_or_nat _ _ (by omega) (by omega)]
  have h := Nat.two_pow_add_eq_or_of_lt (i := 7) (b := r % 64) (by omega) 1
  have e2 : 128 ||| r % 64 = 128 + r % 64 := by
    have : (2 : Nat) ^ 7 * 1 = 128 := by decide
    rw [this] at h
    exact h.symm
  rw [e2]; omega
theorem byte_of (n : Nat) (h : n < 256) : ((UInt8.ofNat n).toNat : Int) = (n : Int) := by
  have : (UInt8.ofNat n).toNat = n := by simp; omega
  rw [this]

/-- Characters with their places. -/
def runesAt (k : Nat) : List (Nat × Nat) → List (Nat × Nat)
  | [] => []
  | (r, n) :: t => (k, r) :: runesAt (k + n) t
def allRunes (l : List UInt8) : List (Nat × Nat) := runesAt 0 (runesL l)
theorem runesAt_len : ∀ (t : List (Nat × Nat)) (k : Nat), (runesAt k t).length = t.length
  | [], _ => rfl
  | (r, n) :: t, k => by simp [runesAt, runesAt_len t]
theorem runesL_len_le : ∀ (k : Nat) (l : List UInt8), l.length ≤ k → (runesL l).length ≤ checkL l
  | 0, l, h => by
    obtain rfl : l = [] := List.eq_nil_of_length_eq_zero (by omega)
    rw [runesL_none rfl]; simp
  | k + 1, l, h => by
    cases hn : nextL l with
    | none => rw [runesL_none hn]; simp
    | some p =>
      obtain ⟨r, n⟩ := p
      have hb := nextL_bd hn
      have := runesL_len_le k (l.drop n) (by simp; omega)
      rw [checkL_some hn, runesL_some hn]
      simp; omega
theorem allRunes_len (l : List UInt8) : (allRunes l).length = (runesL l).length := runesAt_len _ _
theorem allRunes_le (l : List UInt8) : (allRunes l).length ≤ l.length := by
  rw [allRunes_len]
  exact Nat.le_trans (runesL_len_le _ l (Nat.le_refl _)) (checkL_le _ l (Nat.le_refl _))
end Go.Proofs.Ytajnpmhgldfgfaa
namespace Go.Proofs.Ytajnpmhgldfgfaa
open Go.RowKit
set_option linter.unusedVariables false
theorem nextL_eq {c : UInt8} {t : List UInt8} {n r : Nat} (hn : leadN c.toNat = (n, r)) :
    nextL (c :: t) = if n = 0 ∨ t.length + 1 < n then none else (match contsGo (((c :: t).take n).drop 1) r with
      | none => none
      | some q => if widthR q = (n : Int) then some (q, n) else none) := by
  simp only [nextL, hn]
  rfl
theorem nextL_append {a b : List UInt8} {p : Nat × Nat} (h : nextL a = some p) : nextL (a ++ b) = some p := by
  cases a with
  | nil => cases h
  | cons c t =>
    obtain ⟨n, r, hn⟩ : ∃ n r, leadN c.toNat = (n, r) := ⟨_, _, rfl⟩
    rw [List.cons_append, nextL_eq hn]
    rw [nextL_eq hn] at h
    by_cases hs : n = 0 ∨ t.length + 1 < n
    · rw [if_pos hs] at h; cases h
    · rw [if_neg hs] at h
      rw [if_neg (by simp; omega)]
      have : (c :: (t ++ b)).take n = (c :: t).take n := by
        rw [← List.cons_append, List.take_append_of_le_length (by simp; omega)]
      rw [this]
      exact h
theorem runesL_append : ∀ (k : Nat) (a b : List UInt8), a.length ≤ k → checkL a = a.length → runesL (a ++ b) = runesL a ++ runesL b
  | 0, a, b, h, _ => by
    obtain rfl : a = [] := List.eq_nil_of_length_eq_zero (by omega)
    rw [runesL_none (l := []) rfl]; rfl
  | k + 1, a, b, h, hw => by
    cases hn : nextL a with
    | none =>
      rw [checkL_none hn] at hw
      obtain rfl : a = [] := List.eq_nil_of_length_eq_zero hw.symm
      rw [runesL_none (l := []) rfl]; rfl
    | some p =>
      obtain ⟨r, n⟩ := p
      have hb := nextL_bd hn
      rw [checkL_some hn] at hw
      rw [runesL_some (nextL_append (b := b) hn), runesL_some hn, List.drop_append_of_le_length hb.2.1, runesL_append k (a.drop n) b (by simp; omega) (by simp; omega)]
      rfl
theorem checkL_append (a b : List UInt8) (h : checkL a = a.length) : checkL (a ++ b) = a.length + checkL b := by
  rw [checkL, runesL_append _ a b (Nat.le_refl _) h, List.map_append, List.sum_append, ← checkL, ← checkL, h]
theorem count_append (a b : List UInt8) (h : checkL a = a.length) : (runesL (a ++ b)).length = (runesL a).length + (runesL b).length := by
  rw [runesL_append _ a b (Nat.le_refl _) h, List.length_append]
theorem count_le (a : List UInt8) : (runesL a).length ≤ checkL a := runesL_len_le _ a (Nat.le_refl _)
end Go.Proofs.Ytajnpmhgldfgfaa
