/- The walks of the small functions of package utf. -/
import Derived.Test.YtajnpmhgldfgfaaProg
import Derived.Test.YtajnpmhgldfgfaaUtAB
import Derived.Test.YtajnpmhgldfgfaaMem
import Derived.WalkKit
import Derived.ProofKit
import Derived.LoopTactic
import Derived.WalkSpells
import Derived.WalkLawsBesides
import Derived.Lib.Hide
import Derived.Outline
import Derived.Handy
namespace Go.Proofs.Ytajnpmhgldfgfaa
open Go.RowKit
set_option linter.unusedVariables false

set_option maxRecDepth 20000 in
set_option maxHeartbeats 800000 in
theorem width_any (r : Int) (w : World) :
    Calls Try.prog 53 #[.int .i64 r] w fun e w' => e = .returned (.int .i64 (widthR r)) ∧ w = w' := by
  go_enter Try.func53, Try.ntmps53
  go_wp2
  all_goals go_ret
  all_goals exact ⟨ret_int (by unfold widthR; repeat' split; all_goals omega), rfl⟩

set_option maxRecDepth 20000 in
set_option maxHeartbeats 800000 in
theorem char_any (r : Int) (w : World) :
    Calls Try.prog 41 #[.int .i64 r] w fun e w' => e = .returned (.bool (charR r)) ∧ w = w' := by
  go_enter Try.func41, Try.ntmps41
  go_wp2_with (go_at_call 53; refine (width_any _ _).mono ?_; rintro e w' ⟨rfl, rfl⟩)
  all_goals go_ret
  all_goals exact ⟨ret_bool (by rw [Bool.eq_iff_iff]; simp [charR]; try (try simp only [beq_eq_false_iff_ne, ne_eq, beq_iff_eq] at *); omega), rfl⟩

set_option maxRecDepth 20000 in
set_option maxHeartbeats 800000 in
theorem nameStart_any (r : Int) (w : World) :
    Calls Try.prog 50 #[.int .i64 r] w fun e w' => e = .returned (.bool (nameStartR r)) ∧ w = w' := by
  go_enter Try.func50, Try.ntmps50
  go_wp2_with (go_at_call 41; refine (char_any _ _).mono ?_; rintro e w' ⟨rfl, rfl⟩)
  all_goals go_ret
  all_goals exact ⟨ret_bool (by rw [Bool.eq_iff_iff]; simp [nameStartR]; try (try simp only [beq_eq_false_iff_ne, ne_eq, beq_iff_eq] at *); first | omega | (generalize charR r = c; cases c <;> (try simp) <;> (try omega))), rfl⟩

set_option maxRecDepth 20000 in
set_option maxHeartbeats 800000 in
theorem namePart_any (r : Int) (w : World) :
    Calls Try.prog 49 #[.int .i64 r] w fun e w' => e = .returned (.bool (namePartR r)) ∧ w = w' := by
  cases hn : nameStartR r
  all_goals
    have HN := Lib.hid hn
    have hp : namePartR r = decide (nameStartR r = true ∨ (48 ≤ r ∧ r ≤ 57) ∨ r = 45 ∨ r = 46 ∨ r = 183) := rfl
    rw [hn] at hp
    have HP := Lib.hid hp
    clear hp hn
    go_enter Try.func49, Try.ntmps49
    go_wp2_with (go_at_call 50; refine (nameStart_any _ _).mono ?_; rintro e w' ⟨rfl, rfl⟩; rw [HN.out])
    all_goals go_ret
    all_goals exact ⟨ret_bool (by first | (rw [HP.out, Bool.eq_iff_iff]; simp; try omega) | decide), rfl⟩
end Go.Proofs.Ytajnpmhgldfgfaa
