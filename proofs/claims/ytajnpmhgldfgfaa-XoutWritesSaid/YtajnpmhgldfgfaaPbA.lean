/- Plain facts about varints: what GetVarint and PutVarint compute, as functions on lists of bytes and numbers; no program in sight. -/
import Derived.WalkKit
import Derived.Laws.BitsAllLaws
namespace Go.Proofs.Ytajnpmhgldfgfaa
open Go.RowKit
set_option linter.unusedVariables false

/-- What GetVarint makes of bytes, from round i on, v being gathered. -/
def gvGo : List UInt8 → Nat → Nat → Option (Nat × Nat)
  | [], _, _ => none
  | c :: l, i, v => if i = 10 ∨ (i = 9 ∧ 1 < c.toNat) then none else
      if c.toNat < 128 then some (v + c.toNat % 128 * 128 ^ i, i + 1) else gvGo l (i + 1) (v + c.toNat % 128 * 128 ^ i)
def gvar (l : List UInt8) : Option (Nat × Nat) := gvGo l 0 0
def gvRes (o : Option (Nat × Nat)) : Value := match o with
  | some (v, k) => .tuple #[.int .u64 v, .int .i64 k, .bool true]
  | none => .tuple #[.int .u64 0, .int .i64 0, .bool false]

theorem gvRes_form (o : Option (Nat × Nat)) : ∃ (v k : Nat) (b : Bool), gvRes o = .tuple #[.int .u64 v, .int .i64 k, .bool b] := by
  cases o with
  | none => exact ⟨0, 0, false, rfl⟩
  | some p => exact ⟨p.1, p.2, true, rfl⟩
theorem pow7 (k : Nat) : 2 ^ (7 * k) = 128 ^ k := by rw [Nat.pow_mul]
theorem pow_lt64 {k c : Nat} (hk : k ≤ 9) (hc : c < 128) (h9 : k = 9 → c ≤ 1) : c * 128 ^ k < 18446744073709551616 := by
  rcases Nat.lt_or_ge k 9 with h | h
  · have h1 : 128 ^ k ≤ 72057594037927936 := Nat.pow_le_pow_right (n := 128) (by omega) (by omega : k ≤ 8)
    have h2 : c * 128 ^ k ≤ 127 * 72057594037927936 := Nat.mul_le_mul (by omega) h1
    omega
  · obtain rfl : k = 9 := by omega
    have h := Nat.mul_le_mul_right 9223372036854775808 (h9 rfl)
    show c * 9223372036854775808 < _
    omega
theorem or_add {x c k : Nat} (hx : x < 128 ^ k) : x ||| c * 128 ^ k = x + c * 128 ^ k := by
  have h := Nat.two_pow_add_eq_or_of_lt (i := 7 * k) (b := x) (by rw [pow7]; exact hx) c
  rw [pow7] at h
  rw [Nat.or_comm, Nat.mul_comm c, ← h, Nat.add_comm]
theorem pow_le64 {k : Nat} (hk : k ≤ 9) : 128 ^ k ≤ 9223372036854775808 := Nat.pow_le_pow_right (n := 128) (by omega) hk

/-- One step of pbuf.GetVarint, in the walk's own words. -/
theorem gv_or (x k c : Nat) (hk : k ≤ 9) (hx : x < 128 ^ k) (hc : c < 256) (h9 : k = 9 → c ≤ 1) :
    bits .or .u64 (x : Int) (IntKind.u64.wrap (IntKind.u64.wrap (bits .and .u8 (c : Int) 127) * 2 ^ (7 * k))) = ((x + c % 128 * 128 ^ k : Nat) : Int) := by
  have e1 : bits .and .u8 (c : Int) 127 = ((c % 128 : Nat) : Int) := by
    rw [show (127 : Int) = ((127 : Nat) : Int) from rfl, u8_and_nat c 127 hc (by decide)]
    rw [show (127 : Nat) = 2 ^ 7 - 1 from rfl, Nat.and_two_pow_sub_one_eq_mod]
  have hb : c % 128 * 128 ^ k < 18446744073709551616 := pow_lt64 hk (by omega) (fun h => by have := h9 h; omega)
  have e2 : IntKind.u64.wrap ((c % 128 : Nat) : Int) = ((c % 128 : Nat) : Int) := IntWalk.u64_in _ ⟨by omega, by omega⟩
  have e3 : ((c % 128 : Nat) : Int) * 2 ^ (7 * k) = ((c % 128 * 128 ^ k : Nat) : Int) := by rw [← pow7]; simp
  rw [e1, e2, e3, IntWalk.u64_in _ ⟨by omega, by omega⟩, u64_or_nat _ _ (by have := pow_le64 hk; omega) hb, or_add hx]
/-- One step of the document's own. -/
theorem gv_ref (x k c y : Nat) (hk : k ≤ 9) (hx : x < 128 ^ k) (hc : c < 256) (h9 : k = 9 → c ≤ 1) (hy : y = 128 ^ k) :
    IntKind.u64.wrap ((x : Int) + IntKind.u64.wrap ((c : Int) % 128 * (y : Int))) = ((x + c % 128 * 128 ^ k : Nat) : Int) := by
  subst hy
  have e1 : (c : Int) % 128 = ((c % 128 : Nat) : Int) := by omega
  have hb : c % 128 * 128 ^ k < 18446744073709551616 := pow_lt64 hk (by omega) (fun h => by have := h9 h; omega)
  have e3 : ((c % 128 : Nat) : Int) * ((128 ^ k : Nat) : Int) = ((c % 128 * 128 ^ k : Nat) : Int) := (Int.natCast_mul _ _).symm
  have hs : x + c % 128 * 128 ^ k < 18446744073709551616 := by
    rcases Nat.lt_or_ge k 9 with h | h
    · have h1 : 128 ^ k ≤ 72057594037927936 := Nat.pow_le_pow_right (n := 128) (by omega) (by omega : k ≤ 8)
      have h2 : c % 128 * 128 ^ k ≤ 127 * 72057594037927936 := Nat.mul_le_mul (by omega) h1
      omega
    · obtain rfl : k = 9 := by omega
      have h := Nat.mul_le_mul_right 9223372036854775808 (show c % 128 ≤ 1 by have := h9 rfl; omega)
      have hx' : x < 9223372036854775808 := hx
      show x + c % 128 * 9223372036854775808 < _
      omega
  generalize c % 128 * 128 ^ k = z at *
  have e4 : IntKind.u64.wrap (z : Int) = (z : Int) := IntWalk.u64_in _ ⟨by omega, by omega⟩
  rw [e1, e3, e4, ← Int.natCast_add, IntWalk.u64_in _ ⟨by omega, by omega⟩]
theorem gv_mul (k y : Nat) (hk : k < 9) (hy : y = 128 ^ k) : ∃ z : Nat, IntKind.u64.wrap ((y : Int) * 128) = (z : Int) ∧ z = 128 ^ (k + 1) := by
  subst hy
  refine ⟨128 ^ (k + 1), ?_, rfl⟩
  have h1 : 128 ^ (k + 1) ≤ 9223372036854775808 := pow_le64 (by omega)
  rw [show ((128 ^ k : Nat) : Int) * 128 = ((128 ^ (k + 1) : Nat) : Int) from by rw [Nat.pow_succ, Int.natCast_mul]; rfl]
  generalize 128 ^ (k + 1) = z at *
  exact IntWalk.u64_in _ ⟨by omega, by omega⟩
theorem wrap_nat (n : Int) : ∃ z : Nat, IntKind.u64.wrap n = (z : Int) := by
  refine ⟨(IntKind.u64.wrap n).toNat, ?_⟩
  have : 0 ≤ IntKind.u64.wrap n := by rw [IntKind.wrap_u64]; omega
  omega
theorem gv_mul' (k y : Nat) (hk : k ≤ 9) (hy : y = 128 ^ k) : ∃ z : Nat, IntKind.u64.wrap ((y : Int) * 128) = (z : Int) ∧ (k + 1 ≤ 9 → z = 128 ^ (k + 1)) := by
  rcases Nat.lt_or_ge k 9 with h | h
  · obtain ⟨z, h1, h2⟩ := gv_mul k y h hy
    exact ⟨z, h1, fun _ => h2⟩
  · obtain ⟨z, h1⟩ := wrap_nat ((y : Int) * 128)
    exact ⟨z, h1, fun h => absurd h (by omega)⟩
theorem gv_lt {x k c : Nat} (hx : x < 128 ^ k) : x + c % 128 * 128 ^ k < 128 ^ (k + 1) := by
  have : c % 128 * 128 ^ k ≤ 127 * 128 ^ k := Nat.mul_le_mul_right _ (by omega)
  have : 128 ^ (k + 1) = 128 * 128 ^ k := by rw [Nat.pow_succ, Nat.mul_comm]
  omega

theorem drop_cons (s : ByteArray) (k : Nat) (h : k < s.size) : s.data.toList.drop k = s[k] :: s.data.toList.drop (k + 1) := by
  rw [List.drop_eq_getElem_cons (by simpa using h)]; rfl
theorem drop_end (s : ByteArray) (k : Nat) (h : s.size ≤ k) : s.data.toList.drop k = [] := List.drop_eq_nil_of_le (by simpa using h)
theorem gvGo_nil (i v : Nat) : gvGo [] i v = none := rfl
theorem gvGo_ten (l : List UInt8) (i v : Nat) (h : i = 10) : gvGo l i v = none := by
  cases l with
  | nil => rfl
  | cons c l => simp [gvGo, h]
theorem gvGo_bad {c : UInt8} {l : List UInt8} {i v : Nat} (h : i = 9) (h1 : 1 < c.toNat) : gvGo (c :: l) i v = none := by simp [gvGo, h, h1]
theorem gvGo_end {c : UInt8} {l : List UInt8} {i v : Nat} (h : i < 10) (h9 : i = 9 → c.toNat ≤ 1) (h1 : c.toNat < 128) : gvGo (c :: l) i v = some (v + c.toNat % 128 * 128 ^ i, i + 1) := by
  rw [gvGo, if_neg (by omega), if_pos h1]
theorem gvGo_more {c : UInt8} {l : List UInt8} {i v : Nat} (h : i < 10) (h9 : i = 9 → c.toNat ≤ 1) (h1 : 128 ≤ c.toNat) : gvGo (c :: l) i v = gvGo l (i + 1) (v + c.toNat % 128 * 128 ^ i) := by
  rw [gvGo, if_neg (by omega), if_neg (by omega)]

/-- What PutVarint writes. -/
def putV (v : Nat) : List UInt8 :=
  if h : v < 128 then [UInt8.ofNat v] else UInt8.ofNat (v % 128 + 128) :: putV (v / 128)
termination_by v
theorem putV_small {v : Nat} (h : v < 128) : putV v = [UInt8.ofNat v] := by rw [putV, dif_pos h]
theorem putV_big {v : Nat} (h : 128 ≤ v) : putV v = UInt8.ofNat (v % 128 + 128) :: putV (v / 128) := by rw [putV, dif_neg (by omega)]
theorem putV_len : ∀ (n v : Nat), v < 128 ^ (n + 1) → (putV v).length ≤ n + 1
  | 0, v, h => by rw [putV_small (by simpa using h)]; simp
  | n + 1, v, h => by
    rcases Nat.lt_or_ge v 128 with h1 | h1
    · rw [putV_small h1]; simp
    · rw [putV_big h1]
      have := putV_len n (v / 128) (Nat.div_lt_of_lt_mul (by rw [Nat.pow_succ] at h; omega))
      simp; omega
theorem putV_le (v : Nat) (h : v < 18446744073709551616) : (putV v).length ≤ 10 := putV_len 9 v (by
  have : (128 : Nat) ^ (9 + 1) = 1180591620717411303424 := by decide
  omega)
theorem gvGo_putV : ∀ (n v i x : Nat) (b : List UInt8), n + i = 9 → v < 2 * 128 ^ n → gvGo (putV v ++ b) i x = some (x + v * 128 ^ i, i + (putV v).length)
  | 0, v, i, x, b, hn, hv => by
    have h1 : v < 2 := by simpa using hv
    rw [putV_small (by omega)]
    have h2 : (UInt8.ofNat v).toNat = v := by simp; omega
    rw [List.singleton_append, gvGo_end (by omega) (by omega) (by omega), h2, Nat.mod_eq_of_lt (by omega)]
    simp
  | n + 1, v, i, x, b, hn, hv => by
    rcases Nat.lt_or_ge v 128 with h1 | h1
    · rw [putV_small h1]
      have h2 : (UInt8.ofNat v).toNat = v := by simp; omega
      rw [List.singleton_append, gvGo_end (by omega) (by omega) (by omega), h2, Nat.mod_eq_of_lt h1]
      simp
    · rw [putV_big h1]
      have h2 : (UInt8.ofNat (v % 128 + 128)).toNat = v % 128 + 128 := by simp; omega
      rw [List.cons_append, gvGo_more (by omega) (by omega) (by omega), h2, gvGo_putV n (v / 128) (i + 1) _ b (by omega) (by rw [Nat.pow_succ] at hv; omega)]
      have e1 : (v % 128 + 128) % 128 = v % 128 := by omega
      have e2 : x + v % 128 * 128 ^ i + v / 128 * 128 ^ (i + 1) = x + v * 128 ^ i := by
        have e3 : v / 128 * 128 ^ (i + 1) = (128 * (v / 128)) * 128 ^ i := by rw [Nat.pow_succ, Nat.mul_comm (128 ^ i), ← Nat.mul_assoc, Nat.mul_comm (v / 128)]
        rw [e3, Nat.add_assoc, ← Nat.add_mul, Nat.mod_add_div]
      rw [e1, e2]
      simp; omega
theorem gvar_putV (v : Nat) (b : List UInt8) (h : v < 18446744073709551616) : gvar (putV v ++ b) = some (v, (putV v).length) := by
  have := gvGo_putV 9 v 0 0 b rfl (by omega)
  simpa [gvar] using this

/-- A byte with its highest bit set: the walk's words. -/
theorem pv_or (v : Nat) : bits .or .u8 ((v : Int) % 256) 128 = ((UInt8.ofNat (v % 128 + 128)).toNat : Int) := by
  have e1 : (v : Int) % 256 = ((v % 256 : Nat) : Int) := by omega
  rw [e1, show (128 : Int) = ((128 : Nat) : Int) from rfl, u8_or_nat _ _ (by omega) (by decide)]
  have key : ∀ n : Fin 256, n.val ||| 128 = n.val % 128 + 128 := by decide +kernel
  have h := key ⟨v % 256, by omega⟩
  simp only at h
  rw [h]
  have : (UInt8.ofNat (v % 128 + 128)).toNat = v % 128 + 128 := by simp; omega
  rw [this]
  omega
theorem pv_orc (c : UInt8) : bits .or .u8 (c.toNat : Int) 128 = ((UInt8.ofNat (c.toNat % 128 + 128)).toNat : Int) := by
  have h := pv_or c.toNat
  have e : (c.toNat : Int) % 256 = (c.toNat : Int) := by have := UInt8.toNat_lt c; omega
  rwa [e] at h
theorem pv_rem (v : Nat) : (v : Int) % 128 + 128 = ((UInt8.ofNat (v % 128 + 128)).toNat : Int) := by
  have : (UInt8.ofNat (v % 128 + 128)).toNat = v % 128 + 128 := by simp; omega
  rw [this]
  omega
theorem pv_byte (v : Nat) (h : v < 128) : (v : Int) = ((UInt8.ofNat v).toNat : Int) := by
  have : (UInt8.ofNat v).toNat = v := by simp; omega
  rw [this]

/-- What Zigzag and Unzigzag compute. -/
def zig (v : Int) : Int := if 0 ≤ v then 2 * v else -2 * v - 1
def unzig (v : Int) : Int := if v % 2 = 0 then v / 2 else -(v / 2) - 1
theorem zig_pos {v : Int} (h : 0 ≤ v) : zig v = 2 * v := if_pos h
theorem zig_neg {v : Int} (h : v < 0) : zig v = -2 * v - 1 := if_neg (by omega)
theorem unzig_zig (v : Int) : unzig (zig v) = v := by
  unfold unzig zig
  split <;> split <;> omega
theorem zig_unzig (v : Int) (h : 0 ≤ v) : zig (unzig v) = v := by
  unfold unzig zig
  split <;> split <;> omega
theorem xor_u64_zero (x : Int) (h0 : 0 ≤ x) (h1 : x < 18446744073709551616) : bits .xor .u64 x 0 = x := by
  rw [u64_xor x 0 h0 h1 (by omega) (by omega)]; simp; omega
theorem xor_u64_ones (x : Int) (h0 : 0 ≤ x) (h1 : x < 18446744073709551616) : bits .xor .u64 x 18446744073709551615 = 18446744073709551615 - x := by
  have e : BitVec.ofInt 64 18446744073709551615 = BitVec.allOnes 64 := by decide
  show IntKind.u64.wrap ((BitVec.ofInt 64 x ^^^ BitVec.ofInt 64 18446744073709551615).toNat : Int) = _
  rw [e, BitVec.xor_allOnes, BitVec.toNat_not, BitVec.toNat_ofInt, IntKind.wrap_u64]
  omega
theorem xor_i64_zero (x : Int) (h0 : 0 ≤ x) (h1 : x < 9223372036854775808) : bits .xor .i64 x 0 = x := by
  have e : BitVec.ofInt 64 0 = 0#64 := by decide
  show IntKind.i64.wrap ((BitVec.ofInt 64 x ^^^ BitVec.ofInt 64 0).toNat : Int) = _
  rw [e, BitVec.xor_zero, BitVec.toNat_ofInt, IntKind.wrap_i64]
  omega
theorem xor_i64_ones (x : Int) (h0 : 0 ≤ x) (h1 : x < 9223372036854775808) : bits .xor .i64 x (-1) = -x - 1 := by
  have e : BitVec.ofInt 64 (-1) = BitVec.allOnes 64 := by decide
  show IntKind.i64.wrap ((BitVec.ofInt 64 x ^^^ BitVec.ofInt 64 (-1)).toNat : Int) = _
  rw [e, BitVec.xor_allOnes, BitVec.toNat_not, BitVec.toNat_ofInt, IntKind.wrap_i64]
  omega
theorem and_u64_one (x : Int) (h0 : 0 ≤ x) (h1 : x < 18446744073709551616) : bits .and .u64 x 1 = x % 2 := by
  rw [u64_and x 1 h0 h1 (by omega) (by omega)]
  simp only [Int.toNat_one, Nat.and_one_is_mod]
  omega

/-- A number in m more bytes than it needs. -/
def putLong (v m : Nat) : List UInt8 :=
  if h : v < 128 then UInt8.ofNat (v + 128) :: (List.replicate (m - 1) 128 ++ [0]) else UInt8.ofNat (v % 128 + 128) :: putLong (v / 128) m
termination_by v
theorem putLong_small {v m : Nat} (h : v < 128) : putLong v m = UInt8.ofNat (v + 128) :: (List.replicate (m - 1) 128 ++ [0]) := by rw [putLong, dif_pos h]
theorem putLong_big {v m : Nat} (h : 128 ≤ v) : putLong v m = UInt8.ofNat (v % 128 + 128) :: putLong (v / 128) m := by rw [putLong, dif_neg (by omega)]
theorem putV_pos (v : Nat) : 0 < (putV v).length := by
  rcases Nat.lt_or_ge v 128 with h | h
  · rw [putV_small h]; simp
  · rw [putV_big h]; simp
/-- The last byte of a number, its highest bit set. -/
def lastOr (l : List UInt8) : List UInt8 := l.set (l.length - 1) (UInt8.ofNat ((l.getD (l.length - 1) 0).toNat % 128 + 128))
theorem lastOr_cons (c d : UInt8) (l : List UInt8) : lastOr (c :: d :: l) = c :: lastOr (d :: l) := by
  simp [lastOr]
theorem putLong_eq : ∀ (n v m : Nat), v ≤ n → lastOr (putV v) ++ (List.replicate (m - 1) 128 ++ [0]) = putLong v m
  | 0, v, m, hn => by
    obtain rfl : v = 0 := by omega
    rw [putV_small (by omega), putLong_small (by omega)]
    rfl
  | n + 1, v, m, hn => by
    rcases Nat.lt_or_ge v 128 with h | h
    · rw [putV_small h, putLong_small h]
      have : (UInt8.ofNat v).toNat = v := by simp; omega
      simp [lastOr]
      congr 2
      omega
    · rw [putV_big h, putLong_big h, ← putLong_eq n (v / 128) m (by omega)]
      have hp := putV_pos (v / 128)
      match hq : putV (v / 128), hp with
      | d :: r, _ => rw [lastOr_cons]; rfl
theorem gvGo_none {c : UInt8} {l : List UInt8} {i x : Nat} (h : 9 ≤ i) (h1 : i ≤ 10) (hc : 1 < c.toNat) : gvGo (c :: l) i x = none := by
  by_cases h10 : i = 10
  · exact gvGo_ten _ _ _ h10
  · exact gvGo_bad (by omega) hc
theorem gvGo_pad : ∀ (r i x : Nat), i ≤ 10 → gvGo (List.replicate r 128 ++ [0]) i x = if i + r ≤ 9 then some (x, i + r + 1) else none
  | 0, i, x, hi => by
    by_cases h : i ≤ 9
    · rw [if_pos (by omega), List.replicate_zero, List.nil_append, gvGo_end (by omega) (by intro; decide) (by decide)]; simp
    · rw [if_neg (by omega)]
      exact gvGo_ten _ _ _ (by omega)
  | r + 1, i, x, hi => by
    rw [List.replicate_succ, List.cons_append]
    by_cases h : i < 9
    · rw [gvGo_more (by omega) (by omega) (by decide), gvGo_pad r _ _ (by omega)]
      have : (128 : UInt8).toNat % 128 * 128 ^ i = 0 := by simp
      rw [this, show x + 0 = x from rfl, Nat.add_assoc i 1 r, Nat.add_comm 1 r]
    · rw [if_neg (by omega)]
      exact gvGo_none (by omega) hi (by decide)
theorem gvGo_putLong : ∀ (n v m i x : Nat), v ≤ n → 1 ≤ m → i ≤ 10 → gvGo (putLong v m) i x = if i + (putV v).length + m ≤ 10 then some (x + v * 128 ^ i, i + (putV v).length + m) else none
  | n, v, m, i, x, hn, hm, hi => by
    rcases Nat.lt_or_ge v 128 with h | h
    · rw [putV_small h, putLong_small h]
      have h2 : (UInt8.ofNat (v + 128)).toNat = v + 128 := by simp; omega
      by_cases h9 : i < 9
      · rw [gvGo_more (by omega) (by omega) (by omega), gvGo_pad _ _ _ (by omega), h2]
        have e1 : (v + 128) % 128 = v := by omega
        rw [e1]
        simp only [List.length_singleton]
        have e2 : i + 1 + (m - 1) = i + m := by omega
        rw [e2]
        by_cases hc : i + m ≤ 9
        · rw [if_pos hc, if_pos (by omega)]
          have : i + m + 1 = i + 1 + m := by omega
          rw [this]
        · rw [if_neg hc, if_neg (by omega)]
      · rw [gvGo_none (by omega) hi (by omega), if_neg (by simp; omega)]
    · match n, hn with
      | 0, hn => omega
      | n + 1, hn =>
      rw [putV_big h, putLong_big h]
      have h2 : (UInt8.ofNat (v % 128 + 128)).toNat = v % 128 + 128 := by simp; omega
      by_cases h9 : i < 9
      · rw [gvGo_more (by omega) (by omega) (by omega), gvGo_putLong n (v / 128) m (i + 1) _ (by omega) hm (by omega), h2]
        have e1 : (v % 128 + 128) % 128 = v % 128 := by omega
        have e2 : x + v % 128 * 128 ^ i + v / 128 * 128 ^ (i + 1) = x + v * 128 ^ i := by
          have e3 : v / 128 * 128 ^ (i + 1) = (128 * (v / 128)) * 128 ^ i := by rw [Nat.pow_succ, Nat.mul_comm (128 ^ i), ← Nat.mul_assoc, Nat.mul_comm (v / 128)]
          rw [e3, Nat.add_assoc, ← Nat.add_mul, Nat.mod_add_div]
        have e4 : i + 1 + (putV (v / 128)).length + m = i + (UInt8.ofNat (v % 128 + 128) :: putV (v / 128)).length + m := by simp; omega
        rw [e1, e2, e4]
      · have := putV_pos (v / 128)
        rw [gvGo_none (by omega) hi (by omega), if_neg (by simp; omega)]
theorem gvar_putLong (v m : Nat) (hm : 1 ≤ m) : gvar (putLong v m) = if (putV v).length + m ≤ 10 then some (v, (putV v).length + m) else none := by
  have := gvGo_putLong v v m 0 0 (Nat.le_refl _) hm (by omega)
  simpa [gvar] using this
theorem putLong_len (v m : Nat) (hm : 1 ≤ m) : (putLong v m).length = (putV v).length + m := by
  rw [← putLong_eq v v m (Nat.le_refl _)]
  simp [lastOr]; omega
end Go.Proofs.Ytajnpmhgldfgfaa
