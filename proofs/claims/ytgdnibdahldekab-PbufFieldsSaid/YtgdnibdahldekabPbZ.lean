/- The walks of Zigzag and Unzigzag. -/
import Derived.Test.YtgdnibdahldekabProg
import Derived.Test.YtgdnibdahldekabPbA
import Derived.Test.YtgdnibdahldekabMem
import Derived.WalkKit
import Derived.ProofKit
import Derived.LoopTactic
import Derived.WalkSpells
import Derived.WalkLawsBesides
import Derived.Lib.Hide
import Derived.Outline
import Derived.Handy
namespace Go.Proofs.Ytgdnibdahldekab
open Go.RowKit
set_option linter.unusedVariables false


set_option maxHeartbeats 400000 in
theorem zigzag_any (v : Int) (h0 : -9223372036854775808 ≤ v) (h1 : v ≤ 9223372036854775807) (w : World) :
    Calls Try.prog 51 #[.int .i64 v] w fun e w' => e = .returned (.int .u64 (zig v)) ∧ w = w' := by
  go_enter Try.func51, Try.ntmps51
  go_wp2
  go_ret
  refine ⟨?_, rfl⟩
  have e : bits BinOp.xor IntKind.u64 (IntKind.u64.wrap (IntKind.u64.wrap v * 2)) (IntKind.u64.wrap (v / 9223372036854775808)) = zig v := by
    by_cases h : 0 ≤ v
    · have e1 : v / 9223372036854775808 = 0 := by omega
      have e2 : IntKind.u64.wrap (IntKind.u64.wrap v * 2) = 2 * v := by rw [IntKind.wrap_u64, IntKind.wrap_u64]; omega
      rw [e1, e2, zig_pos h]
      exact xor_u64_zero _ (by omega) (by omega)
    · have e1 : v / 9223372036854775808 = -1 := by omega
      have e2 : IntKind.u64.wrap (IntKind.u64.wrap v * 2) = 2 * v + 18446744073709551616 := by rw [IntKind.wrap_u64, IntKind.wrap_u64]; omega
      have e3 : IntKind.u64.wrap (-1) = 18446744073709551615 := by decide
      rw [e1, e2, e3, zig_neg (by omega), xor_u64_ones _ (by omega) (by omega)]
      omega
  rw [e]; rfl
set_option maxHeartbeats 400000 in
theorem unzigzag_any (v : Int) (h0 : 0 ≤ v) (h1 : v ≤ 18446744073709551615) (w : World) :
    Calls Try.prog 52 #[.int .u64 v] w fun e w' => e = .returned (.int .i64 (unzig v)) ∧ w = w' := by
  go_enter Try.func52, Try.ntmps52
  go_wp2
  go_ret
  refine ⟨?_, rfl⟩
  have e : bits BinOp.xor IntKind.i64 (v / 2) (wrap64 (-wrap64 (bits BinOp.and IntKind.u64 v 1))) = unzig v := by
    rw [and_u64_one v (by omega) (by omega)]
    unfold unzig
    split
    · rename_i h
      rw [h]
      have e1 : wrap64 (-wrap64 0) = 0 := by unfold wrap64; decide
      rw [e1]
      exact xor_i64_zero _ (by omega) (by omega)
    · have h : v % 2 = 1 := by omega
      rw [h]
      have e1 : wrap64 (-wrap64 1) = -1 := by unfold wrap64; decide
      rw [e1]
      exact xor_i64_ones _ (by omega) (by omega)
  rw [e]; rfl
end Go.Proofs.Ytgdnibdahldekab
