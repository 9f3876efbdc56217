/- The walks of pbuf.high and pbuf.fixed. -/
import Derived.Test.YtgdnibdahldekabProg
import Derived.Test.YtgdnibdahldekabPbW
import Derived.Test.YtgdnibdahldekabPfA
import Derived.Test.YtgdnibdahldekabMem
import Derived.WalkKit
import Derived.ProofKit
import Derived.LoopTactic
import Derived.WalkSpells
import Derived.WalkLawsBesides
import Derived.Lib.Hide
import Derived.Outline
import Derived.Handy
namespace Go.Proofs.Ytgdnibdahldekab
open Go.RowKit
set_option linter.unusedVariables false

set_option maxRecDepth 20000 in
set_option maxHeartbeats 800000 in
theorem high_any (s : ByteArray) (hs : s.size ≤ 8) (w : World) :
    Calls Try.prog 84 #[.string s] w fun e w' => e = .returned (.int .u64 (leN s.data.toList)) ∧ w = w' := by
  go_enter Try.func84, Try.ntmps84
  go_wp2
  go_loop [3, 7] (fun v i => ∃ (k x : Nat), k ≤ s.size ∧ v = .int .u64 x ∧ i = .int .i64 k ∧ x = leN (s.data.toList.take k))
      (fun _ i => s.size - (intOf i).toNat)
  case atStart => exact ⟨0, 0, by omega, rfl, rfl, rfl⟩
  case round =>
    obtain ⟨k, x, hk, rfl, rfl, hx⟩ := hrel
    have HX := Lib.hid hx
    clear hx
    by_cases hlt : k < s.size
    · have hc := UInt8.toNat_lt s[k]
      have hcw : IntKind.u64.wrap (s[k].toNat : Int) = (s[k].toNat : Int) := IntWalk.u64_in _ ⟨by omega, by omega⟩
      have hb : x < 256 ^ k := by
        have h := leN_lt (s.data.toList.take k)
        rw [← HX.out, List.length_take, Nat.min_eq_left (by simpa using hk)] at h
        exact h
      have HO := Lib.hid (high_or x k s[k].toNat (by omega) hb hc)
      have HT := Lib.hid (leN_take s.data.toList k (by simpa using hlt))
      clear hb
      go_wp2
      go_round
      case rel => exact ⟨k + 1, x + s[k].toNat * 256 ^ k, by omega, by rw [HO.out], by go_num, by rw [HT.out, HX.out]; rfl⟩
      case measure => simp [intOf]; omega
    · obtain rfl : k = s.size := by omega
      go_wp2
      go_ret
      exact ⟨ret_int (by rw [HX.out, List.take_of_length_le (by simp)]), rfl⟩

theorem fixed_no (c0 c1 c2 c3 c4 : Value) (b : ByteArray) (at_ size : Nat) (hb : b.size ≤ 9223372036854775807) (ha : at_ ≤ b.size) (h : b.size < at_ + size) (h8 : size ≤ 8) (w : World) :
    Calls Try.prog 73 #[.agg #[c0, c1, c2, c3, c4], .string b, .int .i64 at_, .int .i64 size] w fun e w' =>
      e = .returned (.tuple #[.agg #[.int .i64 0, .int .i64 0, .int .i64 0, .int .u64 0, .string ⟨#[]⟩], .int .i64 0, .bool false]) ∧ Below w.heap.size w w' := by
  go_enter Try.func73, Try.ntmps73
  go_wp2
  refine bodyPost_ret (v := .tuple #[.agg #[.int .i64 0, .int .i64 0, .int .i64 0, .int .u64 0, .string ⟨#[]⟩], .int .i64 0, .bool false]) (by simp [results, Try.results73, go_sem]) rfl ⟨rfl, ?_⟩
  go_grown

theorem fixed_yes (c0 c1 c2 c3 : Int) (c4 : ByteArray) (b : ByteArray) (at_ size : Nat) (hb : b.size ≤ 9223372036854775807) (h : at_ + size ≤ b.size) (h8 : size ≤ 8) (w : World) :
    Calls Try.prog 73 #[.agg #[.int .i64 c0, .int .i64 c1, .int .i64 c2, .int .u64 c3, .string c4], .string b, .int .i64 at_, .int .i64 size] w fun e w' =>
      e = .returned (.tuple #[.agg #[.int .i64 c0, .int .i64 c1, .int .i64 c2, .int .u64 (leN ((b.data.toList.drop at_).take size)), .string c4], .int .i64 (at_ + size : Nat), .bool true]) ∧ Below w.heap.size w w' := by
  obtain ⟨x, hx⟩ : ∃ x, leN ((b.data.toList.drop at_).take size) = x := ⟨_, rfl⟩
  rw [hx]
  have HX := Lib.hid hx
  clear hx
  go_enter Try.func73, Try.ntmps73
  go_wp2_with fail
  refine (high_any _ (by simp; omega) _).mono ?_
  rintro e w' ⟨rfl, rfl⟩
  rw [extract_list, Nat.add_sub_cancel_left, HX.out]
  go_wp2
  refine bodyPost_ret (v := .tuple #[.agg #[.int .i64 c0, .int .i64 c1, .int .i64 c2, .int .u64 x, .string c4], .int .i64 (at_ + size : Nat), .bool true]) (by simp [results, Try.results73, go_sem]) rfl ⟨rfl, ?_⟩
  go_grown
end Go.Proofs.Ytgdnibdahldekab
