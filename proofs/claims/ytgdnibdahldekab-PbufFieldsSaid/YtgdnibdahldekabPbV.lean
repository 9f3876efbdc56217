/- The walk of the law chapter 10's word alive. -/
import Derived.Test.YtgdnibdahldekabProg
import Derived.Test.YtgdnibdahldekabPbW
import Derived.Test.YtgdnibdahldekabPbP
import Derived.Test.YtgdnibdahldekabPbZ
import Derived.Test.YtgdnibdahldekabMem
import Derived.WalkKit
import Derived.ProofKit
import Derived.LoopTactic
import Derived.WalkSpells
import Derived.WalkLawsBesides
import Derived.Lib.Hide
import Derived.Outline
import Derived.Handy
namespace Go.Proofs.Ytgdnibdahldekab
open Go.RowKit
set_option linter.unusedVariables false


set_option maxRecDepth 20000 in
set_option maxHeartbeats 400000 in
theorem alive10_any (w : World) : Calls Try.prog 25 #[] w fun e w' => e = .returned (.bool true) ∧ Below w.heap.size w w' := by
  have g1 : gvar [172, 2, 120] = some (300, 2) := by decide
  have p1 : putV 300 = [172, 2] := by rw [putV_big (by decide), putV_small (by decide)]; decide
  have z1 : zig (-3) = 5 := by decide
  have z2 : unzig 5 = -3 := by decide
  have G1 := Lib.hid g1
  have P1 := Lib.hid p1
  have Z1 := Lib.hid z1
  have Z2 := Lib.hid z2
  clear g1 p1 z1 z2
  go_enter Try.func25, Try.ntmps25
  go_wp2_with fail
  refine (getVarint_some ⟨#[172, 2, 120]⟩ 300 2 (by decide) G1.out _).mono ?_
  rintro e w' ⟨rfl, rfl⟩
  go_wp2_with fail
  refine (putVarint_any 300 (by decide) _).mono ?_
  rintro e w1 ⟨rfl, hB⟩
  rw [P1.out]
  go_wp2_with fail
  refine (zigzag_any (-3) (by decide) (by decide) _).mono ?_
  rintro e w' ⟨rfl, rfl⟩
  rw [Z1.out]
  go_wp2_with fail
  refine (unzigzag_any 5 (by decide) (by decide) _).mono ?_
  rintro e w' ⟨rfl, rfl⟩
  rw [Z2.out]
  go_wp2_with fail
  go_ret
  exact ⟨rfl, hB⟩
end Go.Proofs.Ytgdnibdahldekab
