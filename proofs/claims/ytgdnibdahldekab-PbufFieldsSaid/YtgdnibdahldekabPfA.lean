/- Plain facts about fields of protocol buffers: what pbuf.one and Fields compute; no program in sight. -/
import Derived.Test.YtgdnibdahldekabPbA
namespace Go.Proofs.Ytgdnibdahldekab
open Go.RowKit
set_option linter.unusedVariables false

/-- A field and its place. -/
structure Fld where
  num : Nat
  kind : Nat
  at_ : Nat
  val : Nat
  data : List UInt8
abbrev fldV (f : Fld) : Value := .agg #[.int .i64 f.num, .int .i64 f.kind, .int .i64 f.at_, .int .u64 f.val, .string ⟨f.data.toArray⟩]
/-- Bytes as a number, the lowest first. -/
def leN : List UInt8 → Nat
  | [] => 0
  | c :: l => c.toNat + 256 * leN l
theorem leN_lt : ∀ (l : List UInt8), leN l < 256 ^ l.length
  | [] => by simp [leN]
  | c :: l => by
    have h := leN_lt l
    have := UInt8.toNat_lt c
    simp only [leN, List.length_cons, Nat.pow_succ]
    omega
theorem leN_snoc : ∀ (l : List UInt8) (c : UInt8), leN (l ++ [c]) = leN l + c.toNat * 256 ^ l.length
  | [], c => by simp [leN]
  | d :: l, c => by
    simp only [List.cons_append, leN, leN_snoc l c, List.length_cons, Nat.pow_succ]
    rw [Nat.mul_add, ← Nat.add_assoc, Nat.mul_comm 256 (c.toNat * _), Nat.mul_assoc]
theorem gvGo_bd : ∀ (l : List UInt8) (i x v k : Nat), gvGo l i x = some (v, k) → i < k ∧ k ≤ i + l.length
  | [], i, x, v, k, h => by cases h
  | c :: l, i, x, v, k, h => by
    rw [gvGo] at h
    split at h
    · cases h
    · split at h
      · simp only [Option.some.injEq, Prod.mk.injEq] at h
        simp; omega
      · have := gvGo_bd l _ _ _ _ h
        simp; omega
theorem gvar_bd {l : List UInt8} {v k : Nat} (h : gvar l = some (v, k)) : 1 ≤ k ∧ k ≤ l.length := by
  have := gvGo_bd l 0 0 v k h
  omega
theorem gvGo_val : ∀ (l : List UInt8) (i x v k : Nat), i ≤ 10 → x < 128 ^ i → gvGo l i x = some (v, k) → v < 18446744073709551616
  | [], i, x, v, k, _, _, h => by cases h
  | c :: l, i, x, v, k, hi, hx, h => by
    rw [gvGo] at h
    split at h
    · cases h
    · rename_i hc
      split at h
      · simp only [Option.some.injEq, Prod.mk.injEq] at h
        have h9 : i ≤ 9 := by omega
        have hl : c.toNat % 128 * 128 ^ i + x < 18446744073709551616 := by
          rcases Nat.lt_or_ge i 9 with h | h
          · have h1 : 128 ^ i ≤ 72057594037927936 := Nat.pow_le_pow_right (n := 128) (by omega) (by omega : i ≤ 8)
            have h2 : c.toNat % 128 * 128 ^ i ≤ 127 * 72057594037927936 := Nat.mul_le_mul (by omega) h1
            omega
          · obtain rfl : i = 9 := by omega
            have h := Nat.mul_le_mul_right 9223372036854775808 (show c.toNat % 128 ≤ 1 by omega)
            have hx' : x < 9223372036854775808 := hx
            show c.toNat % 128 * 9223372036854775808 + x < _
            omega
        omega
      · exact gvGo_val l (i + 1) _ v k (by omega) (gv_lt hx) h
theorem gvar_val {l : List UInt8} {v k : Nat} (h : gvar l = some (v, k)) : v < 18446744073709551616 := gvGo_val l 0 0 v k (by omega) (by simp) h
theorem gvGo_append : ∀ (l b : List UInt8) (i x : Nat) (p : Nat × Nat), gvGo l i x = some p → gvGo (l ++ b) i x = some p
  | [], b, i, x, p, h => by cases h
  | c :: l, b, i, x, p, h => by
    rw [gvGo] at h
    rw [List.cons_append, gvGo]
    split at h
    · cases h
    · rename_i h1
      rw [if_neg h1]
      split at h
      · rename_i h2; rw [if_pos h2]; exact h
      · rename_i h2; rw [if_neg h2]; exact gvGo_append l b _ _ p h
theorem gvar_append {l : List UInt8} {p : Nat × Nat} (b : List UInt8) (h : gvar l = some p) : gvar (l ++ b) = some p := gvGo_append l b 0 0 p h

theorem pow8 (k : Nat) : 2 ^ (8 * k) = 256 ^ k := by rw [Nat.pow_mul]
theorem pow_lt256 {k c : Nat} (hk : k ≤ 7) (hc : c < 256) : c * 256 ^ k < 18446744073709551616 := by
  have h1 : 256 ^ k ≤ 72057594037927936 := Nat.pow_le_pow_right (n := 256) (by omega) (by omega : k ≤ 7)
  have h2 : c * 256 ^ k ≤ 255 * 72057594037927936 := Nat.mul_le_mul (by omega) h1
  omega
theorem or_add8 {x c k : Nat} (hx : x < 256 ^ k) : x ||| c * 256 ^ k = x + c * 256 ^ k := by
  have h := Nat.two_pow_add_eq_or_of_lt (i := 8 * k) (b := x) (by rw [pow8]; exact hx) c
  rw [pow8] at h
  rw [Nat.or_comm, Nat.mul_comm c, ← h, Nat.add_comm]
/-- One step of pbuf.high. -/
theorem high_or (x k c : Nat) (hk : k ≤ 7) (hx : x < 256 ^ k) (hc : c < 256) :
    bits .or .u64 (x : Int) (IntKind.u64.wrap ((c : Int) * 2 ^ (8 * k))) = ((x + c * 256 ^ k : Nat) : Int) := by
  have hb : c * 256 ^ k < 18446744073709551616 := pow_lt256 hk hc
  have hx' : x < 18446744073709551616 := by
    have h1 : 256 ^ k ≤ 72057594037927936 := Nat.pow_le_pow_right (n := 256) (by omega) (by omega : k ≤ 7)
    omega
  have e3 : (c : Int) * 2 ^ (8 * k) = ((c * 256 ^ k : Nat) : Int) := by rw [← pow8]; simp
  rw [e3, IntWalk.u64_in _ ⟨by omega, by omega⟩, u64_or_nat _ _ hx' hb, or_add8 hx]
theorem leN_take (l : List UInt8) (k : Nat) (h : k < l.length) : leN (l.take (k + 1)) = leN (l.take k) + (l[k]).toNat * 256 ^ k := by
  rw [List.take_succ_eq_append_getElem h, leN_snoc]
  have : (l.take k).length = k := by simp; omega
  rw [this]

/-- The field at the front, and how many bytes it has. -/
def oneL (l : List UInt8) : Option (Fld × Nat) :=
  match gvar l with
  | none => none
  | some (tag, n) =>
    if tag / 8 < 1 ∨ 536870911 < tag / 8 then none else
    if tag % 8 = 0 then (match gvar (l.drop n) with
      | none => none
      | some (v, m) => some (⟨tag / 8, 0, 0, v, []⟩, n + m)) else
    if tag % 8 = 1 then (if l.length < n + 8 then none else some (⟨tag / 8, 1, 0, leN ((l.drop n).take 8), []⟩, n + 8)) else
    if tag % 8 = 5 then (if l.length < n + 4 then none else some (⟨tag / 8, 5, 0, leN ((l.drop n).take 4), []⟩, n + 4)) else
    if tag % 8 = 2 then (match gvar (l.drop n) with
      | none => none
      | some (v, m) => if l.length - (n + m) < v then none else some (⟨tag / 8, 2, 0, 0, (l.drop (n + m)).take v⟩, n + m + v)) else none
theorem oneL_none {l : List UInt8} (h : gvar l = none) : oneL l = none := by unfold oneL; rw [h]
theorem oneL_eq {l : List UInt8} {tag n : Nat} (h : gvar l = some (tag, n)) : oneL l =
    if tag / 8 < 1 ∨ 536870911 < tag / 8 then none else
    if tag % 8 = 0 then (match gvar (l.drop n) with
      | none => none
      | some (v, m) => some (⟨tag / 8, 0, 0, v, []⟩, n + m)) else
    if tag % 8 = 1 then (if l.length < n + 8 then none else some (⟨tag / 8, 1, 0, leN ((l.drop n).take 8), []⟩, n + 8)) else
    if tag % 8 = 5 then (if l.length < n + 4 then none else some (⟨tag / 8, 5, 0, leN ((l.drop n).take 4), []⟩, n + 4)) else
    if tag % 8 = 2 then (match gvar (l.drop n) with
      | none => none
      | some (v, m) => if l.length - (n + m) < v then none else some (⟨tag / 8, 2, 0, 0, (l.drop (n + m)).take v⟩, n + m + v)) else none := by
  unfold oneL; rw [h]
theorem oneL_bad {l : List UInt8} {tag n : Nat} (h : gvar l = some (tag, n)) (h1 : tag / 8 < 1 ∨ 536870911 < tag / 8) : oneL l = none := by rw [oneL_eq h, if_pos h1]
theorem oneL_v0 {l : List UInt8} {tag n : Nat} (h : gvar l = some (tag, n)) (h1 : ¬ (tag / 8 < 1 ∨ 536870911 < tag / 8)) (h2 : tag % 8 = 0) (h3 : gvar (l.drop n) = none) : oneL l = none := by
  rw [oneL_eq h, if_neg h1, if_pos h2, h3]
theorem oneL_v1 {l : List UInt8} {tag n v m : Nat} (h : gvar l = some (tag, n)) (h1 : ¬ (tag / 8 < 1 ∨ 536870911 < tag / 8)) (h2 : tag % 8 = 0) (h3 : gvar (l.drop n) = some (v, m)) : oneL l = some (⟨tag / 8, 0, 0, v, []⟩, n + m) := by
  rw [oneL_eq h, if_neg h1, if_pos h2, h3]
theorem oneL_f8n {l : List UInt8} {tag n : Nat} (h : gvar l = some (tag, n)) (h1 : ¬ (tag / 8 < 1 ∨ 536870911 < tag / 8)) (h2 : tag % 8 = 1) (h3 : l.length < n + 8) : oneL l = none := by
  rw [oneL_eq h, if_neg h1, if_neg (by omega), if_pos h2, if_pos h3]
theorem oneL_f8 {l : List UInt8} {tag n : Nat} (h : gvar l = some (tag, n)) (h1 : ¬ (tag / 8 < 1 ∨ 536870911 < tag / 8)) (h2 : tag % 8 = 1) (h3 : ¬ l.length < n + 8) : oneL l = some (⟨tag / 8, 1, 0, leN ((l.drop n).take 8), []⟩, n + 8) := by
  rw [oneL_eq h, if_neg h1, if_neg (by omega), if_pos h2, if_neg h3]
theorem oneL_f4n {l : List UInt8} {tag n : Nat} (h : gvar l = some (tag, n)) (h1 : ¬ (tag / 8 < 1 ∨ 536870911 < tag / 8)) (h2 : tag % 8 = 5) (h3 : l.length < n + 4) : oneL l = none := by
  rw [oneL_eq h, if_neg h1, if_neg (by omega), if_neg (by omega), if_pos h2, if_pos h3]
theorem oneL_f4 {l : List UInt8} {tag n : Nat} (h : gvar l = some (tag, n)) (h1 : ¬ (tag / 8 < 1 ∨ 536870911 < tag / 8)) (h2 : tag % 8 = 5) (h3 : ¬ l.length < n + 4) : oneL l = some (⟨tag / 8, 5, 0, leN ((l.drop n).take 4), []⟩, n + 4) := by
  rw [oneL_eq h, if_neg h1, if_neg (by omega), if_neg (by omega), if_pos h2, if_neg h3]
theorem oneL_b0 {l : List UInt8} {tag n : Nat} (h : gvar l = some (tag, n)) (h1 : ¬ (tag / 8 < 1 ∨ 536870911 < tag / 8)) (h2 : tag % 8 = 2) (h3 : gvar (l.drop n) = none) : oneL l = none := by
  rw [oneL_eq h, if_neg h1, if_neg (by omega), if_neg (by omega), if_neg (by omega), if_pos h2, h3]
theorem oneL_b1 {l : List UInt8} {tag n v m : Nat} (h : gvar l = some (tag, n)) (h1 : ¬ (tag / 8 < 1 ∨ 536870911 < tag / 8)) (h2 : tag % 8 = 2) (h3 : gvar (l.drop n) = some (v, m)) (h4 : l.length - (n + m) < v) : oneL l = none := by
  rw [oneL_eq h, if_neg h1, if_neg (by omega), if_neg (by omega), if_neg (by omega), if_pos h2, h3]; exact if_pos h4
theorem oneL_b2 {l : List UInt8} {tag n v m : Nat} (h : gvar l = some (tag, n)) (h1 : ¬ (tag / 8 < 1 ∨ 536870911 < tag / 8)) (h2 : tag % 8 = 2) (h3 : gvar (l.drop n) = some (v, m)) (h4 : ¬ l.length - (n + m) < v) : oneL l = some (⟨tag / 8, 2, 0, 0, (l.drop (n + m)).take v⟩, n + m + v) := by
  rw [oneL_eq h, if_neg h1, if_neg (by omega), if_neg (by omega), if_neg (by omega), if_pos h2, h3]; exact if_neg h4
theorem oneL_else {l : List UInt8} {tag n : Nat} (h : gvar l = some (tag, n)) (h2 : ¬ tag % 8 = 0) (h3 : ¬ tag % 8 = 1) (h4 : ¬ tag % 8 = 5) (h5 : ¬ tag % 8 = 2) : oneL l = none := by
  rw [oneL_eq h, if_neg h2, if_neg h3, if_neg h4, if_neg h5]; split <;> rfl

/-- The ways of oneL. -/
theorem oneL_cases {l : List UInt8} {f : Fld} {k : Nat} (h : oneL l = some (f, k)) : ∃ tag n, gvar l = some (tag, n) ∧ ¬ (tag / 8 < 1 ∨ 536870911 < tag / 8) ∧
    ((tag % 8 = 0 ∧ ∃ v m, gvar (l.drop n) = some (v, m) ∧ f = ⟨tag / 8, 0, 0, v, []⟩ ∧ k = n + m) ∨
     (tag % 8 = 1 ∧ n + 8 ≤ l.length ∧ f = ⟨tag / 8, 1, 0, leN ((l.drop n).take 8), []⟩ ∧ k = n + 8) ∨
     (tag % 8 = 5 ∧ n + 4 ≤ l.length ∧ f = ⟨tag / 8, 5, 0, leN ((l.drop n).take 4), []⟩ ∧ k = n + 4) ∨
     (tag % 8 = 2 ∧ ∃ v m, gvar (l.drop n) = some (v, m) ∧ v ≤ l.length - (n + m) ∧ f = ⟨tag / 8, 2, 0, 0, (l.drop (n + m)).take v⟩ ∧ k = n + m + v)) := by
  cases hg : gvar l with
  | none => rw [oneL_none hg] at h; cases h
  | some p =>
    obtain ⟨tag, n⟩ := p
    refine ⟨tag, n, rfl, ?_⟩
    by_cases h1 : tag / 8 < 1 ∨ 536870911 < tag / 8
    · rw [oneL_bad hg h1] at h; cases h
    refine ⟨h1, ?_⟩
    by_cases a0 : tag % 8 = 0
    · cases h3 : gvar (l.drop n) with
      | none => rw [oneL_v0 hg h1 a0 h3] at h; cases h
      | some q =>
        obtain ⟨v, m⟩ := q
        rw [oneL_v1 hg h1 a0 h3] at h
        simp only [Option.some.injEq, Prod.mk.injEq] at h
        exact .inl ⟨a0, v, m, rfl, h.1.symm, h.2.symm⟩
    by_cases a1 : tag % 8 = 1
    · by_cases h3 : l.length < n + 8
      · rw [oneL_f8n hg h1 a1 h3] at h; cases h
      · rw [oneL_f8 hg h1 a1 h3] at h
        simp only [Option.some.injEq, Prod.mk.injEq] at h
        exact .inr (.inl ⟨a1, by omega, h.1.symm, h.2.symm⟩)
    by_cases a5 : tag % 8 = 5
    · by_cases h3 : l.length < n + 4
      · rw [oneL_f4n hg h1 a5 h3] at h; cases h
      · rw [oneL_f4 hg h1 a5 h3] at h
        simp only [Option.some.injEq, Prod.mk.injEq] at h
        exact .inr (.inr (.inl ⟨a5, by omega, h.1.symm, h.2.symm⟩))
    by_cases a2 : tag % 8 = 2
    · cases h3 : gvar (l.drop n) with
      | none => rw [oneL_b0 hg h1 a2 h3] at h; cases h
      | some q =>
        obtain ⟨v, m⟩ := q
        by_cases h4 : l.length - (n + m) < v
        · rw [oneL_b1 hg h1 a2 h3 h4] at h; cases h
        · rw [oneL_b2 hg h1 a2 h3 h4] at h
          simp only [Option.some.injEq, Prod.mk.injEq] at h
          exact .inr (.inr (.inr ⟨a2, v, m, rfl, by omega, h.1.symm, h.2.symm⟩))
    · rw [oneL_else hg a0 a1 a5 a2] at h; cases h
theorem oneL_bd {l : List UInt8} {f : Fld} {k : Nat} (h : oneL l = some (f, k)) : 1 ≤ k ∧ k ≤ l.length := by
  obtain ⟨tag, n, hg, _, h⟩ := oneL_cases h
  have b := gvar_bd hg
  rcases h with ⟨_, v, m, h3, _, rfl⟩ | ⟨_, h3, _, rfl⟩ | ⟨_, h3, _, rfl⟩ | ⟨_, v, m, h3, h4, _, rfl⟩
  · have b2 := gvar_bd h3
    simp at b2; omega
  · omega
  · omega
  · have b2 := gvar_bd h3
    simp at b2; omega
/-- What a field holds is within its kind's bounds. -/
theorem oneL_val {l : List UInt8} {f : Fld} {k : Nat} (h : oneL l = some (f, k)) : f.num ≤ 536870911 ∧ f.kind ≤ 5 ∧ f.at_ = 0 ∧ f.val < 18446744073709551616 ∧ f.data.length ≤ l.length := by
  obtain ⟨tag, n, hg, h1, h⟩ := oneL_cases h
  rcases h with ⟨_, v, m, h3, rfl, _⟩ | ⟨_, h3, rfl, _⟩ | ⟨_, h3, rfl, _⟩ | ⟨_, v, m, h3, h4, rfl, _⟩
  · have := gvar_val h3
    exact ⟨by simp only; omega, by simp, rfl, this, by simp⟩
  · refine ⟨by simp only; omega, by simp, rfl, ?_, by simp⟩
    have h := leN_lt ((l.drop n).take 8)
    have e : ((l.drop n).take 8).length = 8 := by simp; omega
    rw [e] at h
    exact h
  · refine ⟨by simp only; omega, by simp, rfl, ?_, by simp⟩
    have h := leN_lt ((l.drop n).take 4)
    have e : ((l.drop n).take 4).length = 4 := by simp; omega
    rw [e] at h
    have : (256 : Nat) ^ 4 = 4294967296 := by decide
    simp only; omega
  · exact ⟨by simp only; omega, by simp, rfl, by simp, by simp; omega⟩
theorem oneL_append {l : List UInt8} {f : Fld} {k : Nat} (b : List UInt8) (h : oneL l = some (f, k)) : oneL (l ++ b) = some (f, k) := by
  obtain ⟨tag, n, hg, h1, h⟩ := oneL_cases h
  have hb := gvar_bd hg
  have hg' := gvar_append b hg
  have hd : (l ++ b).drop n = l.drop n ++ b := List.drop_append_of_le_length hb.2
  rcases h with ⟨a, v, m, h3, rfl, rfl⟩ | ⟨a, h3, rfl, rfl⟩ | ⟨a, h3, rfl, rfl⟩ | ⟨a, v, m, h3, h4, rfl, rfl⟩
  · exact oneL_v1 hg' h1 a (by rw [hd]; exact gvar_append b h3)
  · rw [oneL_f8 hg' h1 a (by simp; omega), hd, List.take_append_of_le_length (by simp; omega)]
  · rw [oneL_f4 hg' h1 a (by simp; omega), hd, List.take_append_of_le_length (by simp; omega)]
  · have b2 := gvar_bd h3
    simp at b2
    rw [oneL_b2 hg' h1 a (by rw [hd]; exact gvar_append b h3) (by simp; omega), List.drop_append_of_le_length (by omega), List.take_append_of_le_length (by simp; omega)]

/-- The fields from place k on, and the place where none begins. -/
def fieldsGo (k : Nat) (l : List UInt8) : List Fld × Option Nat :=
  if l = [] then ([], none) else
  match h : oneL l with
  | none => ([], some k)
  | some (f, n) => ({ f with at_ := k } :: (fieldsGo (k + n) (l.drop n)).1, (fieldsGo (k + n) (l.drop n)).2)
termination_by l.length
decreasing_by all_goals (have := oneL_bd h; simp; omega)
theorem fieldsGo_nil (k : Nat) : fieldsGo k [] = ([], none) := by rw [fieldsGo, if_pos rfl]
theorem fieldsGo_none {k : Nat} {l : List UInt8} (hl : l ≠ []) (h : oneL l = none) : fieldsGo k l = ([], some k) := by
  rw [fieldsGo, if_neg hl]
  split
  · rfl
  · rename_i h'; rw [h] at h'; cases h'
theorem fieldsGo_some {k n : Nat} {l : List UInt8} {f : Fld} (h : oneL l = some (f, n)) : fieldsGo k l = ({ f with at_ := k } :: (fieldsGo (k + n) (l.drop n)).1, (fieldsGo (k + n) (l.drop n)).2) := by
  have hl : l ≠ [] := fun e => by have := oneL_bd h; rw [e] at this; simp at this; omega
  rw [fieldsGo, if_neg hl]
  split
  · rename_i h'; rw [h] at h'; cases h'
  · rename_i h'
    rw [h] at h'
    simp only [Option.some.injEq, Prod.mk.injEq] at h'
    obtain ⟨rfl, rfl⟩ := h'
    rfl
theorem fieldsGo_len : ∀ (m k : Nat) (l : List UInt8), l.length ≤ m → (fieldsGo k l).1.length ≤ l.length
  | 0, k, l, h => by
    obtain rfl : l = [] := List.eq_nil_of_length_eq_zero (by omega)
    rw [fieldsGo_nil]; simp
  | m + 1, k, l, h => by
    by_cases hl : l = []
    · subst hl; rw [fieldsGo_nil]; simp
    cases ho : oneL l with
    | none => rw [fieldsGo_none hl ho]; simp
    | some p =>
      obtain ⟨f, n⟩ := p
      have hb := oneL_bd ho
      have := fieldsGo_len m (k + n) (l.drop n) (by simp; omega)
      rw [fieldsGo_some ho]
      simp at this ⊢; omega
def shiftF (d : Nat) (f : Fld) : Fld := { f with at_ := f.at_ + d }
theorem fieldsGo_shift : ∀ (m k d : Nat) (l : List UInt8), l.length ≤ m → fieldsGo (k + d) l = ((fieldsGo k l).1.map (shiftF d), (fieldsGo k l).2.map (· + d))
  | 0, k, d, l, h => by
    obtain rfl : l = [] := List.eq_nil_of_length_eq_zero (by omega)
    rw [fieldsGo_nil, fieldsGo_nil]; rfl
  | m + 1, k, d, l, h => by
    by_cases hl : l = []
    · subst hl; rw [fieldsGo_nil, fieldsGo_nil]; rfl
    cases ho : oneL l with
    | none => rw [fieldsGo_none hl ho, fieldsGo_none hl ho]; rfl
    | some p =>
      obtain ⟨f, n⟩ := p
      have hb := oneL_bd ho
      rw [fieldsGo_some ho, fieldsGo_some ho, Nat.add_right_comm, fieldsGo_shift m (k + n) d (l.drop n) (by simp; omega)]
      rfl
/-- Fields one behind the other. -/
theorem fieldsGo_append : ∀ (m k : Nat) (a b : List UInt8), a.length ≤ m → (fieldsGo k a).2 = none →
    fieldsGo k (a ++ b) = ((fieldsGo k a).1 ++ (fieldsGo (k + a.length) b).1, (fieldsGo (k + a.length) b).2)
  | 0, k, a, b, h, hn => by
    obtain rfl : a = [] := List.eq_nil_of_length_eq_zero (by omega)
    rw [fieldsGo_nil]; rfl
  | m + 1, k, a, b, h, hn => by
    by_cases hl : a = []
    · subst hl; rw [fieldsGo_nil]; rfl
    cases ho : oneL a with
    | none => rw [fieldsGo_none hl ho] at hn; cases hn
    | some p =>
      obtain ⟨f, n⟩ := p
      have hb := oneL_bd ho
      rw [fieldsGo_some ho] at hn ⊢
      rw [fieldsGo_some (oneL_append b ho), List.drop_append_of_le_length hb.2, fieldsGo_append m (k + n) (a.drop n) b (by simp; omega) hn]
      have : k + n + (a.drop n).length = k + a.length := by simp; omega
      rw [this]
      rfl

end Go.Proofs.Ytgdnibdahldekab
