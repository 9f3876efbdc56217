/- The walk of the law UtfNames. -/
import Derived.Test.YtgdnibdahldekaaProg
import Derived.Test.YtgdnibdahldekaaUtC
import Derived.Test.YtgdnibdahldekaaMem
import Derived.WalkKit
import Derived.ProofKit
import Derived.LoopTactic
import Derived.WalkSpells
import Derived.WalkLawsBesides
import Derived.Lib.Hide
import Derived.Outline
import Derived.Handy
namespace Go.Proofs.Ytgdnibdahldekaa
open Go.RowKit
set_option linter.unusedVariables false

set_option maxRecDepth 20000 in
set_option maxHeartbeats 400000 in
theorem alive6_any (w : World) : Calls Try.prog 18 #[] w fun e w' => e = .returned (.bool true) ∧ Below w.heap.size w w' := by
  have x1 : nextL [97, 255] = some (97, 1) := by decide
  have x2 : nextL [255] = none := by decide
  have x3 : nextL [97, 195, 169] = some (97, 1) := by decide
  have x4 : nextL [195, 169] = some (233, 2) := by decide
  have c1 : checkL [97, 255] = 1 := by rw [checkL_some x1]; show 1 + checkL [255] = 1; rw [checkL_none x2]
  have c2 : checkL [97, 195, 169] = 3 := by rw [checkL_some x3]; show 1 + checkL [195, 169] = 3; rw [checkL_some x4]; show 1 + (2 + checkL []) = 3; rw [checkL_none rfl]
  have p1 : putR 233 = [195, 169] := by decide
  have n1 : charR 9 = true := by decide
  have n2 : charR 0 = false := by decide
  have n3 : spaceR 10 = true := by decide
  have n4 : nameStartR 97 = true := by decide
  have n5 : nameStartR 49 = false := by decide
  have C1 := Lib.hid c1
  have C2 := Lib.hid c2
  have P1 := Lib.hid p1
  have N1 := Lib.hid n1
  have N2 := Lib.hid n2
  have N3 := Lib.hid n3
  have N4 := Lib.hid n4
  have N5 := Lib.hid n5
  clear x1 x2 x3 x4 c1 c2 p1 n1 n2 n3 n4 n5
  go_enter Try.func18, Try.ntmps18
  go_wp2_with fail
  refine (check_any ⟨#[97, 255]⟩ (by decide) _).mono ?_
  rintro e w' ⟨rfl, rfl⟩
  rw [C1.out]
  go_wp2_with fail
  refine (check_any ⟨#[97, 195, 169]⟩ (by decide) _).mono ?_
  rintro e w' ⟨rfl, rfl⟩
  rw [C2.out]
  go_wp2_with fail
  refine (put_ok 233 (by decide) _).mono ?_
  rintro e w1 ⟨rfl, hB⟩
  rw [P1.out]
  go_wp2_with fail
  refine (char_any 9 _).mono ?_
  rintro e w' ⟨rfl, rfl⟩
  rw [N1.out]
  go_wp2_with fail
  refine (char_any 0 _).mono ?_
  rintro e w' ⟨rfl, rfl⟩
  rw [N2.out]
  go_wp2_with fail
  refine (space_any 10 _).mono ?_
  rintro e w' ⟨rfl, rfl⟩
  rw [N3.out]
  go_wp2_with fail
  refine (nameStart_any 97 _).mono ?_
  rintro e w' ⟨rfl, rfl⟩
  rw [N4.out]
  go_wp2_with fail
  refine (nameStart_any 49 _).mono ?_
  rintro e w' ⟨rfl, rfl⟩
  rw [N5.out]
  go_wp2_with fail
  go_ret
  exact ⟨rfl, hB⟩

set_option maxRecDepth 20000 in
set_option maxHeartbeats 800000 in
theorem utfNames_walk (r : Int) (w0 : (Lit.int .i64 r).wf = true) (w : World) :
    Calls Try.prog 5 #[.int .i64 r] w fun e w' => e = .returned (.bool true) ∧ Below w.heap.size w w' := by
  have h1 := nameStart_part r
  have h2 := part_char r
  have h3 := part_space r
  have h4 := space_char r
  obtain ⟨a, ha⟩ : ∃ a, nameStartR r = a := ⟨_, rfl⟩
  obtain ⟨b, hb⟩ : ∃ a, namePartR r = a := ⟨_, rfl⟩
  obtain ⟨c, hc⟩ : ∃ a, charR r = a := ⟨_, rfl⟩
  obtain ⟨d, hd⟩ : ∃ a, spaceR r = a := ⟨_, rfl⟩
  rw [ha, hb] at h1
  rw [hb, hc] at h2
  rw [hb, hd] at h3
  rw [hc, hd] at h4
  have A1 := fun w => nameStart_any r w
  have A2 := fun w => namePart_any r w
  have A3 := fun w => char_any r w
  have A4 := fun w => space_any r w
  rw [ha] at A1
  rw [hb] at A2
  rw [hc] at A3
  rw [hd] at A4
  have B1 := Lib.hid A1
  have B2 := Lib.hid A2
  have B3 := Lib.hid A3
  have B4 := Lib.hid A4
  clear A1 A2 A3 A4 ha hb hc hd w0
  cases a <;> cases b <;> cases c <;> cases d
  all_goals (try (exfalso; simp at h1 h2 h3 h4; done))
  all_goals
    clear h1 h2 h3 h4
    go_enter Try.func5, Try.ntmps5
    go_wp2_with fail
    refine (alive6_any _).mono ?_
    rintro e w1 ⟨rfl, hB⟩
    go_wp2_with (first | (go_at_call 19; refine (B1.out _).mono ?_; rintro e w' ⟨rfl, rfl⟩) | (go_at_call 20; refine (B2.out _).mono ?_; rintro e w' ⟨rfl, rfl⟩) | (go_at_call 21; refine (B3.out _).mono ?_; rintro e w' ⟨rfl, rfl⟩) | (go_at_call 22; refine (B4.out _).mono ?_; rintro e w' ⟨rfl, rfl⟩))
    go_ret
    exact ⟨rfl, hB⟩
end Go.Proofs.Ytgdnibdahldekaa
