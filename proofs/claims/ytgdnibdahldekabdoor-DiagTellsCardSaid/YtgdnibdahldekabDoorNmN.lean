/- A code's name and a reason's text, by the program and by the document: they are the same. -/
import Derived.Test.YtgdnibdahldekabDoorNmH
import Derived.Test.YtgdnibdahldekabDoorQb
import Derived.Test.YtgdnibdahldekabDoorDgB
namespace Go.Proofs.YtgdnibdahldekabDoor
open Go.RowKit
set_option linter.unusedVariables false

/-- The table that a number's digits are counted by lies as it must. -/
abbrev Tab (w : World) : Prop := Lib.TabIs Tryd.prog w "internal/strconv.uint64pow10" .u64 Lib.pow10Tab
/-- Both names of a code. -/
def NameS (c : Int) : Prop := ∃ s : List UInt8, s.length ≤ 40 ∧
  (∀ w, Tab w → Calls Tryd.prog 14 #[.int .i64 c] w fun e w' => e = .returned (.string ⟨s.toArray⟩) ∧ Below w.heap.size w w') ∧
  (∀ w, Calls Tryd.prog 15 #[.int .i64 c] w fun e w' => e = .returned (.string ⟨s.toArray⟩) ∧ Below w.heap.size w w')
set_option maxRecDepth 100000 in
theorem name_0 : NameS 0 := by
  refine ⟨[79, 75], by decide, fun w _ => ?_, fun w => ?_⟩
  · go_enter Tryd.func14, Tryd.ntmps14
    go_wp2
    go_ret
    exact ⟨rfl, Below.refl _ _⟩
  · go_enter Tryd.func15, Tryd.ntmps15
    go_wp2
    go_ret
    exact ⟨rfl, Below.refl _ _⟩
set_option maxRecDepth 100000 in
theorem name_1 : NameS 1 := by
  refine ⟨[69, 95, 65, 82, 71], by decide, fun w _ => ?_, fun w => ?_⟩
  · go_enter Tryd.func14, Tryd.ntmps14
    go_wp2
    go_ret
    exact ⟨rfl, Below.refl _ _⟩
  · go_enter Tryd.func15, Tryd.ntmps15
    go_wp2
    go_ret
    exact ⟨rfl, Below.refl _ _⟩
set_option maxRecDepth 100000 in
theorem name_2 : NameS 2 := by
  refine ⟨[69, 95, 76, 73, 77, 73, 84], by decide, fun w _ => ?_, fun w => ?_⟩
  · go_enter Tryd.func14, Tryd.ntmps14
    go_wp2
    go_ret
    exact ⟨rfl, Below.refl _ _⟩
  · go_enter Tryd.func15, Tryd.ntmps15
    go_wp2
    go_ret
    exact ⟨rfl, Below.refl _ _⟩
set_option maxRecDepth 100000 in
theorem name_3 : NameS 3 := by
  refine ⟨[69, 95, 70, 79, 82, 77], by decide, fun w _ => ?_, fun w => ?_⟩
  · go_enter Tryd.func14, Tryd.ntmps14
    go_wp2
    go_ret
    exact ⟨rfl, Below.refl _ _⟩
  · go_enter Tryd.func15, Tryd.ntmps15
    go_wp2
    go_ret
    exact ⟨rfl, Below.refl _ _⟩
set_option maxRecDepth 100000 in
theorem name_4 : NameS 4 := by
  refine ⟨[69, 95, 90, 69, 82, 79], by decide, fun w _ => ?_, fun w => ?_⟩
  · go_enter Tryd.func14, Tryd.ntmps14
    go_wp2
    go_ret
    exact ⟨rfl, Below.refl _ _⟩
  · go_enter Tryd.func15, Tryd.ntmps15
    go_wp2
    go_ret
    exact ⟨rfl, Below.refl _ _⟩
set_option maxRecDepth 100000 in
theorem name_10 : NameS 10 := by
  refine ⟨[69, 95, 87, 73, 82, 69], by decide, fun w _ => ?_, fun w => ?_⟩
  · go_enter Tryd.func14, Tryd.ntmps14
    go_wp2
    go_ret
    exact ⟨rfl, Below.refl _ _⟩
  · go_enter Tryd.func15, Tryd.ntmps15
    go_wp2
    go_ret
    exact ⟨rfl, Below.refl _ _⟩
set_option maxRecDepth 100000 in
theorem name_11 : NameS 11 := by
  refine ⟨[69, 95, 88, 77, 76], by decide, fun w _ => ?_, fun w => ?_⟩
  · go_enter Tryd.func14, Tryd.ntmps14
    go_wp2
    go_ret
    exact ⟨rfl, Below.refl _ _⟩
  · go_enter Tryd.func15, Tryd.ntmps15
    go_wp2
    go_ret
    exact ⟨rfl, Below.refl _ _⟩
set_option maxRecDepth 100000 in
theorem name_12 : NameS 12 := by
  refine ⟨[69, 95, 68, 79, 67], by decide, fun w _ => ?_, fun w => ?_⟩
  · go_enter Tryd.func14, Tryd.ntmps14
    go_wp2
    go_ret
    exact ⟨rfl, Below.refl _ _⟩
  · go_enter Tryd.func15, Tryd.ntmps15
    go_wp2
    go_ret
    exact ⟨rfl, Below.refl _ _⟩
set_option maxRecDepth 100000 in
theorem name_13 : NameS 13 := by
  refine ⟨[69, 95, 75, 73, 78, 68], by decide, fun w _ => ?_, fun w => ?_⟩
  · go_enter Tryd.func14, Tryd.ntmps14
    go_wp2
    go_ret
    exact ⟨rfl, Below.refl _ _⟩
  · go_enter Tryd.func15, Tryd.ntmps15
    go_wp2
    go_ret
    exact ⟨rfl, Below.refl _ _⟩
set_option maxRecDepth 100000 in
theorem name_14 : NameS 14 := by
  refine ⟨[69, 95, 69, 88, 65, 67, 84], by decide, fun w _ => ?_, fun w => ?_⟩
  · go_enter Tryd.func14, Tryd.ntmps14
    go_wp2
    go_ret
    exact ⟨rfl, Below.refl _ _⟩
  · go_enter Tryd.func15, Tryd.ntmps15
    go_wp2
    go_ret
    exact ⟨rfl, Below.refl _ _⟩
set_option maxRecDepth 100000 in
theorem name_15 : NameS 15 := by
  refine ⟨[69, 95, 78, 85, 76, 76], by decide, fun w _ => ?_, fun w => ?_⟩
  · go_enter Tryd.func14, Tryd.ntmps14
    go_wp2
    go_ret
    exact ⟨rfl, Below.refl _ _⟩
  · go_enter Tryd.func15, Tryd.ntmps15
    go_wp2
    go_ret
    exact ⟨rfl, Below.refl _ _⟩
set_option maxRecDepth 100000 in
theorem name_16 : NameS 16 := by
  refine ⟨[69, 95, 65, 82, 73, 84, 89], by decide, fun w _ => ?_, fun w => ?_⟩
  · go_enter Tryd.func14, Tryd.ntmps14
    go_wp2
    go_ret
    exact ⟨rfl, Below.refl _ _⟩
  · go_enter Tryd.func15, Tryd.ntmps15
    go_wp2
    go_ret
    exact ⟨rfl, Below.refl _ _⟩
set_option maxRecDepth 100000 in
theorem name_90 : NameS 90 := by
  refine ⟨[69, 95, 83, 67, 82, 73, 80, 84], by decide, fun w _ => ?_, fun w => ?_⟩
  · go_enter Tryd.func14, Tryd.ntmps14
    go_wp2
    go_ret
    exact ⟨rfl, Below.refl _ _⟩
  · go_enter Tryd.func15, Tryd.ntmps15
    go_wp2
    go_ret
    exact ⟨rfl, Below.refl _ _⟩
theorem ba_two (s : List UInt8) : (⟨#[69, 95]⟩ : ByteArray) ++ ⟨s.toArray⟩ = ⟨(69 :: 95 :: s).toArray⟩ := by
  apply ByteArray.ext
  simp
set_option maxRecDepth 100000 in
set_option maxHeartbeats 800000 in
theorem name_other (c : Int) (h0 : -9223372036854775808 ≤ c) (h1 : c ≤ 9223372036854775807) (n0 : ¬ c = 0) (n1 : ¬ c = 1) (n2 : ¬ c = 2) (n3 : ¬ c = 3) (n4 : ¬ c = 4) (n10 : ¬ c = 10) (n11 : ¬ c = 11) (n12 : ¬ c = 12) (n13 : ¬ c = 13) (n14 : ¬ c = 14) (n15 : ¬ c = 15) (n16 : ¬ c = 16) (n90 : ¬ c = 90) : NameS c := by
  have b0 : (c == 0) = false := beq_eq_false_iff_ne.2 n0
  have b1 : (c == 1) = false := beq_eq_false_iff_ne.2 n1
  have b2 : (c == 2) = false := beq_eq_false_iff_ne.2 n2
  have b3 : (c == 3) = false := beq_eq_false_iff_ne.2 n3
  have b4 : (c == 4) = false := beq_eq_false_iff_ne.2 n4
  have b10 : (c == 10) = false := beq_eq_false_iff_ne.2 n10
  have b11 : (c == 11) = false := beq_eq_false_iff_ne.2 n11
  have b12 : (c == 12) = false := beq_eq_false_iff_ne.2 n12
  have b13 : (c == 13) = false := beq_eq_false_iff_ne.2 n13
  have b14 : (c == 14) = false := beq_eq_false_iff_ne.2 n14
  have b15 : (c == 15) = false := beq_eq_false_iff_ne.2 n15
  have b16 : (c == 16) = false := beq_eq_false_iff_ne.2 n16
  have b90 : (c == 90) = false := beq_eq_false_iff_ne.2 n90
  have hlen := Lib.itoa_length_le c h0 h1
  have HI := Lib.hid (fun w (ht : Tab w) => Tryd.strconv_Itoa c h0 h1 w ht)
  have HD := Lib.hid (fun w => digits_any c h0 h1 w)
  refine ⟨69 :: 95 :: Lib.itoa c, by rw [List.length_cons, List.length_cons]; omega, fun w ht => ?_, fun w => ?_⟩
  · have HT := Lib.hid (HI.out w ht)
    clear HI HD ht
    generalize Lib.itoa c = s at *
    go_enter Tryd.func14, Tryd.ntmps14
    go_wp2_with fail
    refine HT.out.mono ?_
    rintro e w1 ⟨rfl, k, os, rfl⟩
    have hB := Lib.hid (below_grown w k os)
    generalize Sort.grow (w.drewN k) os = w2 at *
    go_wp2
    go_ret
    exact ⟨congrArg (fun b => Ending.returned (Value.string b)) (ba_two s), hB.out⟩
  · have HT := Lib.hid (HD.out w)
    clear HI HD
    generalize Lib.itoa c = s at *
    go_enter Tryd.func15, Tryd.ntmps15
    go_wp2_with fail
    refine HT.out.mono ?_
    rintro e w1 ⟨rfl, hB⟩
    go_wp2
    go_ret
    exact ⟨congrArg (fun b => Ending.returned (Value.string b)) (ba_two s), hB⟩
theorem name_same (c : Int) (h0 : -9223372036854775808 ≤ c) (h1 : c ≤ 9223372036854775807) : NameS c := by
  by_cases n0 : c = 0
  · subst n0; exact name_0
  by_cases n1 : c = 1
  · subst n1; exact name_1
  by_cases n2 : c = 2
  · subst n2; exact name_2
  by_cases n3 : c = 3
  · subst n3; exact name_3
  by_cases n4 : c = 4
  · subst n4; exact name_4
  by_cases n10 : c = 10
  · subst n10; exact name_10
  by_cases n11 : c = 11
  · subst n11; exact name_11
  by_cases n12 : c = 12
  · subst n12; exact name_12
  by_cases n13 : c = 13
  · subst n13; exact name_13
  by_cases n14 : c = 14
  · subst n14; exact name_14
  by_cases n15 : c = 15
  · subst n15; exact name_15
  by_cases n16 : c = 16
  · subst n16; exact name_16
  by_cases n90 : c = 90
  · subst n90; exact name_90
  exact name_other c h0 h1 n0 n1 n2 n3 n4 n10 n11 n12 n13 n14 n15 n16 n90
end Go.Proofs.YtgdnibdahldekabDoor
