/- The walk of a document's is. -/
import Derived.Test.YtajnpmhgldfgfaaXtH
namespace Go.Proofs.Ytajnpmhgldfgfaa
open Go.RowKit
set_option linter.unusedVariables false

set_option maxRecDepth 100000 in
set_option maxHeartbeats 4000000 in
/-- Whether there is an element. -/
theorem is_any (a : Option Addr) (n c : Nat) (e : Int) (W : World) :
    Calls Try.prog 33 #[.agg #[.slice a n c], .int .i64 e] W fun en W' => en = .returned (.bool (decide (0 ≤ e ∧ e < n))) ∧ Below W.heap.size W W' := by
  obtain ⟨W1, hW1⟩ : ∃ W1, W.alloc (.cells #[.slice a n c] 32) = W1 := ⟨_, rfl⟩
  have HB1 := Lib.hid (show Below W.heap.size W W1 by rw [← hW1]; exact (Below.refl _ W).alloc (Nat.le_refl _) _)
  have hb1 : BlkAt W1 W.heap.size 32 #[.slice a n c] := by rw [← hW1]; exact BlkAt.new _ _ _
  have HW1 := Lib.hid hW1
  by_cases h0 : 0 ≤ e
  · by_cases h1 : e < n
    · rw [decide_eq_true (⟨h0, h1⟩ : 0 ≤ e ∧ e < (n : Int))]
      clear hb1 hW1
      go_enter Try.func33, Try.ntmps33
      go_wp2
      go_ret
      rw [HW1.out]
      refine ⟨?_, HB1.out⟩
      simp
    · rw [decide_eq_false (fun h => h1 h.2 : ¬ (0 ≤ e ∧ e < (n : Int)))]
      clear hb1 hW1
      go_enter Try.func33, Try.ntmps33
      go_wp2
      go_ret
      rw [HW1.out]
      refine ⟨?_, HB1.out⟩
      simp
  · rw [decide_eq_false (fun h => h0 h.1 : ¬ (0 ≤ e ∧ e < (n : Int)))]
    clear hb1 hW1
    go_enter Try.func33, Try.ntmps33
    go_wp2
    go_ret
    rw [HW1.out]
    refine ⟨?_, HB1.out⟩
    simp
end Go.Proofs.Ytajnpmhgldfgfaa
