/- The walk of the document's own Put. -/
import Derived.Test.YtgdnibdahldekabProg
import Derived.Test.YtgdnibdahldekabUtC
import Derived.Test.YtgdnibdahldekabUtP
import Derived.Test.YtgdnibdahldekabMem
import Derived.WalkKit
import Derived.ProofKit
import Derived.LoopTactic
import Derived.WalkSpells
import Derived.WalkLawsBesides
import Derived.Lib.Hide
import Derived.Outline
import Derived.Handy
namespace Go.Proofs.Ytgdnibdahldekab
open Go.RowKit
set_option linter.unusedVariables false

set_option maxRecDepth 200000 in
set_option maxHeartbeats 800000 in
theorem refPut_bad (r : Int) (h : widthR r = 0) (w : World) :
    Calls Try.prog 12 #[.int .i64 r] w fun e w' => e = .returned (.tuple #[.string ⟨#[]⟩, .bool false]) ∧ Below w.heap.size w w' := by
  have hb : r < 0 ∨ 1114111 < r ∨ (55296 ≤ r ∧ r ≤ 57343) := by
    apply Decidable.byContradiction
    intro hn
    have := widthR_pos (r := r) (by omega)
    omega
  clear h
  rcases hb with h | h | ⟨h1, h2⟩
  all_goals
    go_enter Try.func12, Try.ntmps12
    go_wp2
    go_ret2
    exact ⟨rfl, Below.refl _ _⟩

set_option maxRecDepth 200000 in
set_option maxHeartbeats 1600000 in
theorem refPut_one (r : Nat) (h : r < 128) (w : World) :
    Calls Try.prog 12 #[.int .i64 r] w fun e w' => e = .returned (.tuple #[str (putR r), .bool true]) ∧ Below w.heap.size w w' := by
  have hp : putR r = [UInt8.ofNat r] := if_pos h
  have HP := Lib.hid hp
  have hb : (r : Int) = ((UInt8.ofNat r).toNat : Int) := (byte_of r (by omega)).symm
  have HB := Lib.hid hb
  clear hp hb
  go_enter Try.func12, Try.ntmps12
  go_wp2_with (refine wpList_toStr _ rfl 92 9 5 _ rfl Try.underlying92 Try.underlying5 Try.underlying9 ⟨w.heap.size, 0, none⟩ [UInt8.ofNat r] 1 1 rfl rfl ?c1 ?_)
  case c1 => omega
  go_wp2
  go_ret2
  exact ⟨by rw [HP.out]; rfl, (Below.refl _ _).alloc (Nat.le_refl _) _⟩

set_option maxRecDepth 200000 in
set_option maxHeartbeats 1600000 in
theorem refPut_two (r : Nat) (hlo : ¬ r < 128) (hhi : r < 2048) (w : World) :
    Calls Try.prog 12 #[.int .i64 r] w fun e w' => e = .returned (.tuple #[str (putR r), .bool true]) ∧ Below w.heap.size w w' := by
  obtain ⟨b0, h0⟩ : ∃ b, UInt8.ofNat (192 + r / 64) = b := ⟨_, rfl⟩
  have c0 : (b0.toNat : Int) = ((192 + r / 64 : Nat) : Int) := by rw [← h0]; exact byte_of _ (by omega)
  obtain ⟨b1, h1⟩ : ∃ b, UInt8.ofNat (128 + r % 64) = b := ⟨_, rfl⟩
  have c1 : (b1.toNat : Int) = ((128 + r % 64 : Nat) : Int) := by rw [← h1]; exact byte_of _ (by omega)
  have hp : putR r = [b0, b1] := by rw [putR, if_neg hlo, if_pos hhi, h0, h1]
  have C0 := Lib.hid c0
  have C1 := Lib.hid c1
  have HP := Lib.hid hp
  clear hp c0 h0 c1 h1
  go_enter Try.func12, Try.ntmps12
  go_wp2_with (refine wpList_toStr _ rfl 92 9 5 _ rfl Try.underlying92 Try.underlying5 Try.underlying9 ⟨w.heap.size, 0, none⟩ [b0, b1] 2 2 rfl rfl ?c1 ?_)
  case c1 =>
    intro j hj
    match j, hj with
    | 0, _ =>
      show some (Value.int .u8 (192 + (r : Int) / 64)) = some (Value.int .u8 (b0.toNat : Int))
      have := C0.out
      congr 2
      omega
    | 1, _ =>
      show some (Value.int .u8 (128 + (r : Int) % 64)) = some (Value.int .u8 (b1.toNat : Int))
      have := C1.out
      congr 2
      omega
  go_wp2
  go_ret2
  exact ⟨by rw [HP.out]; rfl, (Below.refl _ _).alloc (Nat.le_refl _) _⟩

set_option maxRecDepth 200000 in
set_option maxHeartbeats 1600000 in
theorem refPut_threeI (r : Int) (b0 b1 b2 : UInt8) (hlo : 2048 ≤ r) (hhi : r < 65536) (hq : r < 55296 ∨ 57343 < r) (d0 : (b0.toNat : Int) = 224 + r / 4096) (d1 : (b1.toNat : Int) = 128 + r / 64 % 64) (d2 : (b2.toNat : Int) = 128 + r % 64) (w : World) :
    Calls Try.prog 12 #[.int .i64 r] w fun e w' => e = .returned (.tuple #[str [b0, b1, b2], .bool true]) ∧ Below w.heap.size w w' := by
  have D0 := Lib.hid d0
  have D1 := Lib.hid d1
  have D2 := Lib.hid d2
  clear d0 d1 d2
  rcases hq with hq | hq
  all_goals
    go_enter Try.func12, Try.ntmps12
    go_wp2
    rw [run_toStr _ 92 9 5 ⟨w.heap.size, 0, none⟩ [b0, b1, b2] 3 3 rfl Try.underlying92 Try.underlying5 Try.underlying9 ?c1]
    case c1 =>
      intro j hj
      match j, hj with
      | 0, _ =>
        refine (BlkAt.new w _ _).cell 0 |>.trans ?_
        show some (Value.int .u8 (224 + r / 4096)) = some (Value.int .u8 (b0.toNat : Int))
        rw [D0.out]
      | 1, _ =>
        refine (BlkAt.new w _ _).cell 1 |>.trans ?_
        show some (Value.int .u8 (128 + r / 64 % 64)) = some (Value.int .u8 (b1.toNat : Int))
        rw [D1.out]
      | 2, _ =>
        refine (BlkAt.new w _ _).cell 2 |>.trans ?_
        show some (Value.int .u8 (128 + r % 64)) = some (Value.int .u8 (b2.toNat : Int))
        rw [D2.out]
    go_wp2
    go_ret2
    exact ⟨rfl, (Below.refl _ _).alloc (Nat.le_refl _) _⟩

theorem refPut_three (r : Nat) (hlo : ¬ r < 2048) (hhi : r < 65536) (hq : r < 55296 ∨ 57343 < r) (w : World) :
    Calls Try.prog 12 #[.int .i64 r] w fun e w' => e = .returned (.tuple #[str (putR r), .bool true]) ∧ Below w.heap.size w w' := by
  rw [putR, if_neg (by omega), if_neg hlo, if_pos hhi]
  exact refPut_threeI r (UInt8.ofNat (224 + r / 4096)) (UInt8.ofNat (128 + r / 64 % 64)) (UInt8.ofNat (128 + r % 64)) (by omega) (by omega) (by omega) (by rw [byte_of _ (by omega)]; omega) (by rw [byte_of _ (by omega)]; omega) (by rw [byte_of _ (by omega)]; omega) w

set_option maxRecDepth 200000 in
set_option maxHeartbeats 1600000 in
theorem refPut_fourI (r : Int) (b0 b1 b2 b3 : UInt8) (hlo : 65536 ≤ r) (hhi : r ≤ 1114111) (d0 : (b0.toNat : Int) = 240 + r / 262144) (d1 : (b1.toNat : Int) = 128 + r / 4096 % 64) (d2 : (b2.toNat : Int) = 128 + r / 64 % 64) (d3 : (b3.toNat : Int) = 128 + r % 64) (w : World) :
    Calls Try.prog 12 #[.int .i64 r] w fun e w' => e = .returned (.tuple #[str [b0, b1, b2, b3], .bool true]) ∧ Below w.heap.size w w' := by
  have D0 := Lib.hid d0
  have D1 := Lib.hid d1
  have D2 := Lib.hid d2
  have D3 := Lib.hid d3
  clear d0 d1 d2 d3
  all_goals
    go_enter Try.func12, Try.ntmps12
    go_wp2
    rw [run_toStr _ 92 9 5 ⟨w.heap.size, 0, none⟩ [b0, b1, b2, b3] 4 4 rfl Try.underlying92 Try.underlying5 Try.underlying9 ?c1]
    case c1 =>
      intro j hj
      match j, hj with
      | 0, _ =>
        refine (BlkAt.new w _ _).cell 0 |>.trans ?_
        show some (Value.int .u8 (240 + r / 262144)) = some (Value.int .u8 (b0.toNat : Int))
        rw [D0.out]
      | 1, _ =>
        refine (BlkAt.new w _ _).cell 1 |>.trans ?_
        show some (Value.int .u8 (128 + r / 4096 % 64)) = some (Value.int .u8 (b1.toNat : Int))
        rw [D1.out]
      | 2, _ =>
        refine (BlkAt.new w _ _).cell 2 |>.trans ?_
        show some (Value.int .u8 (128 + r / 64 % 64)) = some (Value.int .u8 (b2.toNat : Int))
        rw [D2.out]
      | 3, _ =>
        refine (BlkAt.new w _ _).cell 3 |>.trans ?_
        show some (Value.int .u8 (128 + r % 64)) = some (Value.int .u8 (b3.toNat : Int))
        rw [D3.out]
    go_wp2
    go_ret2
    exact ⟨rfl, (Below.refl _ _).alloc (Nat.le_refl _) _⟩

theorem refPut_four (r : Nat) (hlo : ¬ r < 65536) (hhi : r < 1114112) (w : World) :
    Calls Try.prog 12 #[.int .i64 r] w fun e w' => e = .returned (.tuple #[str (putR r), .bool true]) ∧ Below w.heap.size w w' := by
  rw [putR, if_neg (by omega), if_neg (by omega), if_neg hlo]
  exact refPut_fourI r (UInt8.ofNat (240 + r / 262144)) (UInt8.ofNat (128 + r / 4096 % 64)) (UInt8.ofNat (128 + r / 64 % 64)) (UInt8.ofNat (128 + r % 64)) (by omega) (by omega) (by rw [byte_of _ (by omega)]; omega) (by rw [byte_of _ (by omega)]; omega) (by rw [byte_of _ (by omega)]; omega) (by rw [byte_of _ (by omega)]; omega) w

theorem refPut_ok (r : Nat) (h : widthR (r : Int) ≠ 0) (w : World) :
    Calls Try.prog 12 #[.int .i64 r] w fun e w' => e = .returned (.tuple #[str (putR r), .bool true]) ∧ Below w.heap.size w w' := by
  have hv : ¬ ((r : Int) < 0 ∨ 1114112 ≤ (r : Int) ∨ (55296 ≤ (r : Int) ∧ (r : Int) ≤ 57343)) := fun hn => h (widthR_zero hn)
  by_cases a : r < 128
  · exact refPut_one r a w
  by_cases b : r < 2048
  · exact refPut_two r a b w
  by_cases c : r < 65536
  · exact refPut_three r b c (by omega) w
  · exact refPut_four r c (by omega) w
end Go.Proofs.Ytgdnibdahldekab
