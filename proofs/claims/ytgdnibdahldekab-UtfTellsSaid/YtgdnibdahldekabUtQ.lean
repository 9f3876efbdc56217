/- The walks of the document's own words on characters: Char, NameStart, NamePart, Space. -/
import Derived.Test.YtgdnibdahldekabProg
import Derived.Test.YtgdnibdahldekabUtW
import Derived.Test.YtgdnibdahldekabMem
import Derived.WalkKit
import Derived.ProofKit
import Derived.LoopTactic
import Derived.WalkSpells
import Derived.WalkLawsBesides
import Derived.Lib.Hide
import Derived.Handy
namespace Go.Proofs.Ytgdnibdahldekab
open Go.RowKit
set_option linter.unusedVariables false

theorem charR_eq (r : Int) : charR r = decide (r = 9 ∨ r = 10 ∨ r = 13 ∨ (32 ≤ r ∧ r ≤ 55295) ∨ (57344 ≤ r ∧ r ≤ 65533) ∨ (65536 ≤ r ∧ r ≤ 1114111)) := by
  unfold charR
  by_cases hz : r < 0 ∨ 1114112 ≤ r ∨ (55296 ≤ r ∧ r ≤ 57343)
  · rw [widthR_zero hz, decide_eq_decide]; omega
  · have := widthR_pos hz
    rw [decide_eq_decide]; omega

set_option maxRecDepth 20000 in
set_option maxHeartbeats 800000 in
theorem refSpace_any (r : Int) (w : World) :
    Calls Try.prog 21 #[.int .i64 r] w fun e w' => e = .returned (.bool (spaceR r)) ∧ w = w' := by
  go_enter Try.func21, Try.ntmps21
  go_wp2
  all_goals go_ret
  all_goals exact ⟨ret_bool (by rw [Bool.eq_iff_iff]; simp [spaceR]; try omega), rfl⟩

set_option maxRecDepth 20000 in
set_option maxHeartbeats 800000 in
theorem refIsChar_any (r : Int) (w : World) :
    Calls Try.prog 15 #[.int .i64 r] w fun e w' => e = .returned (.bool (charR r)) ∧ w = w' := by
  rw [charR_eq]
  go_enter Try.func15, Try.ntmps15
  go_wp2
  all_goals go_ret
  all_goals exact ⟨ret_bool (by first | (rw [Bool.eq_iff_iff]; done) | (rw [Bool.eq_iff_iff]; simp; done) | (rw [Bool.eq_iff_iff]; simp; (try simp only [beq_eq_false_iff_ne, ne_eq, beq_iff_eq] at *); omega)), rfl⟩

set_option maxRecDepth 20000 in
set_option maxHeartbeats 800000 in
theorem refNameStart_any (r : Int) (w : World) :
    Calls Try.prog 17 #[.int .i64 r] w fun e w' => e = .returned (.bool (nameStartR r)) ∧ w = w' := by
  go_enter Try.func17, Try.ntmps17
  go_wp2_with (go_at_call 15; refine (refIsChar_any _ _).mono ?_; rintro e w' ⟨rfl, rfl⟩)
  all_goals go_ret
  all_goals exact ⟨ret_bool (by rw [Bool.eq_iff_iff]; simp [nameStartR]; try (try simp only [beq_eq_false_iff_ne, ne_eq, beq_iff_eq] at *); first | omega | (generalize charR r = c; cases c <;> (try simp) <;> (try omega))), rfl⟩

set_option maxRecDepth 20000 in
set_option maxHeartbeats 800000 in
theorem refNamePart_any (r : Int) (w : World) :
    Calls Try.prog 19 #[.int .i64 r] w fun e w' => e = .returned (.bool (namePartR r)) ∧ w = w' := by
  cases hn : nameStartR r
  all_goals
    have HN := Lib.hid hn
    have hp : namePartR r = decide (nameStartR r = true ∨ (48 ≤ r ∧ r ≤ 57) ∨ r = 45 ∨ r = 46 ∨ r = 183) := rfl
    rw [hn] at hp
    have HP := Lib.hid hp
    clear hp hn
    go_enter Try.func19, Try.ntmps19
    go_wp2_with (go_at_call 17; refine (refNameStart_any _ _).mono ?_; rintro e w' ⟨rfl, rfl⟩; rw [HN.out])
    all_goals go_ret
    all_goals exact ⟨ret_bool (by first | (rw [HP.out, Bool.eq_iff_iff]; simp; try omega) | decide), rfl⟩
end Go.Proofs.Ytgdnibdahldekab
