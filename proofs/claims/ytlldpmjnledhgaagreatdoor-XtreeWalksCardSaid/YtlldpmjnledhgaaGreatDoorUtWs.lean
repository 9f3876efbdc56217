/- The walk of utf.Space. -/
import Derived.Test.YtlldpmjnledhgaaGreatDoorProg
import Derived.Test.YtlldpmjnledhgaaGreatDoorUtW
import Derived.Test.YtlldpmjnledhgaaGreatDoorMem
import Derived.WalkKit
import Derived.ProofKit
import Derived.LoopTactic
import Derived.WalkSpells
import Derived.WalkLawsBesides
import Derived.Lib.Hide
import Derived.Outline
import Derived.Handy
namespace Go.Proofs.YtlldpmjnledhgaaGreatDoor
open Go.RowKit
set_option linter.unusedVariables false

set_option maxRecDepth 20000 in
set_option maxHeartbeats 800000 in
theorem space_any (r : Int) (w : World) :
    Calls Tryz.prog 49 #[.int .i64 r] w fun e w' => e = .returned (.bool (spaceR r)) ∧ w = w' := by
  go_enter Tryz.func49, Tryz.ntmps49
  go_wp2
  all_goals go_ret
  all_goals exact ⟨ret_bool (by rw [Bool.eq_iff_iff]; simp [spaceR]; try omega), rfl⟩

end Go.Proofs.YtlldpmjnledhgaaGreatDoor
