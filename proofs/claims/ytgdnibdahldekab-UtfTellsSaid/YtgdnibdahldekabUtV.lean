/- The walk of the law chapter 6's word alive. -/
import Derived.Test.YtgdnibdahldekabProg
import Derived.Test.YtgdnibdahldekabUtC
import Derived.Test.YtgdnibdahldekabMem
import Derived.WalkKit
import Derived.ProofKit
import Derived.LoopTactic
import Derived.WalkSpells
import Derived.WalkLawsBesides
import Derived.Lib.Hide
import Derived.Outline
import Derived.Handy
namespace Go.Proofs.Ytgdnibdahldekab
open Go.RowKit
set_option linter.unusedVariables false

set_option maxRecDepth 20000 in
set_option maxHeartbeats 400000 in
theorem alive6_any (w : World) : Calls Try.prog 7 #[] w fun e w' => e = .returned (.bool true) ∧ Below w.heap.size w w' := by
  have x1 : nextL [97, 255] = some (97, 1) := by decide
  have x2 : nextL [255] = none := by decide
  have x3 : nextL [97, 195, 169] = some (97, 1) := by decide
  have x4 : nextL [195, 169] = some (233, 2) := by decide
  have c1 : checkL [97, 255] = 1 := by rw [checkL_some x1]; show 1 + checkL [255] = 1; rw [checkL_none x2]
  have c2 : checkL [97, 195, 169] = 3 := by rw [checkL_some x3]; show 1 + checkL [195, 169] = 3; rw [checkL_some x4]; show 1 + (2 + checkL []) = 3; rw [checkL_none rfl]
  have p1 : putR 233 = [195, 169] := by decide
  have n1 : charR 9 = true := by decide
  have n2 : charR 0 = false := by decide
  have n3 : spaceR 10 = true := by decide
  have n4 : nameStartR 97 = true := by decide
  have n5 : nameStartR 49 = false := by decide
  have C1 := Lib.hid c1
  have C2 := Lib.hid c2
  have P1 := Lib.hid p1
  have N1 := Lib.hid n1
  have N2 := Lib.hid n2
  have N3 := Lib.hid n3
  have N4 := Lib.hid n4
  have N5 := Lib.hid n5
  clear x1 x2 x3 x4 c1 c2 p1 n1 n2 n3 n4 n5
  go_enter Try.func7, Try.ntmps7
  go_wp2_with fail
  refine (check_any ⟨#[97, 255]⟩ (by decide) _).mono ?_
  rintro e w' ⟨rfl, rfl⟩
  rw [C1.out]
  go_wp2_with fail
  refine (check_any ⟨#[97, 195, 169]⟩ (by decide) _).mono ?_
  rintro e w' ⟨rfl, rfl⟩
  rw [C2.out]
  go_wp2_with fail
  refine (put_ok 233 (by decide) _).mono ?_
  rintro e w1 ⟨rfl, hB⟩
  rw [P1.out]
  go_wp2_with fail
  refine (char_any 9 _).mono ?_
  rintro e w' ⟨rfl, rfl⟩
  rw [N1.out]
  go_wp2_with fail
  refine (char_any 0 _).mono ?_
  rintro e w' ⟨rfl, rfl⟩
  rw [N2.out]
  go_wp2_with fail
  refine (space_any 10 _).mono ?_
  rintro e w' ⟨rfl, rfl⟩
  rw [N3.out]
  go_wp2_with fail
  refine (nameStart_any 97 _).mono ?_
  rintro e w' ⟨rfl, rfl⟩
  rw [N4.out]
  go_wp2_with fail
  refine (nameStart_any 49 _).mono ?_
  rintro e w' ⟨rfl, rfl⟩
  rw [N5.out]
  go_wp2_with fail
  go_ret
  exact ⟨rfl, hB⟩
end Go.Proofs.Ytgdnibdahldekab
