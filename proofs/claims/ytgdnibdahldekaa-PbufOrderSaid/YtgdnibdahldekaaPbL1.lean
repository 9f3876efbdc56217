/- The walk of the law PbufNumbers. -/
import Derived.Test.YtgdnibdahldekaaProg
import Derived.Test.YtgdnibdahldekaaPbW
import Derived.Test.YtgdnibdahldekaaPbP
import Derived.Test.YtgdnibdahldekaaPbZ
import Derived.Test.YtgdnibdahldekaaMem
import Derived.WalkKit
import Derived.ProofKit
import Derived.LoopTactic
import Derived.WalkSpells
import Derived.WalkLawsBesides
import Derived.Lib.Hide
import Derived.Outline
import Derived.Handy
namespace Go.Proofs.Ytgdnibdahldekaa
open Go.RowKit
set_option linter.unusedVariables false


set_option maxRecDepth 20000 in
set_option maxHeartbeats 400000 in
theorem alive10_any (w : World) : Calls Try.prog 9 #[] w fun e w' => e = .returned (.bool true) ∧ Below w.heap.size w w' := by
  have g1 : gvar [172, 2, 120] = some (300, 2) := by decide
  have p1 : putV 300 = [172, 2] := by rw [putV_big (by decide), putV_small (by decide)]; decide
  have z1 : zig (-3) = 5 := by decide
  have z2 : unzig 5 = -3 := by decide
  have G1 := Lib.hid g1
  have P1 := Lib.hid p1
  have Z1 := Lib.hid z1
  have Z2 := Lib.hid z2
  clear g1 p1 z1 z2
  go_enter Try.func9, Try.ntmps9
  go_wp2_with fail
  refine (getVarint_some ⟨#[172, 2, 120]⟩ 300 2 (by decide) G1.out _).mono ?_
  rintro e w' ⟨rfl, rfl⟩
  go_wp2_with fail
  refine (putVarint_any 300 (by decide) _).mono ?_
  rintro e w1 ⟨rfl, hB⟩
  rw [P1.out]
  go_wp2_with fail
  refine (zigzag_any (-3) (by decide) (by decide) _).mono ?_
  rintro e w' ⟨rfl, rfl⟩
  rw [Z1.out]
  go_wp2_with fail
  refine (unzigzag_any 5 (by decide) (by decide) _).mono ?_
  rintro e w' ⟨rfl, rfl⟩
  rw [Z2.out]
  go_wp2_with fail
  go_ret
  exact ⟨rfl, hB⟩

set_option maxRecDepth 20000 in
set_option maxHeartbeats 800000 in
theorem pbufNumbers_walk (a0 : Int) (a1 : ByteArray) (a2 : Int) (w0 : (Lit.int .u64 a0).wf = true) (w1 : a1.size ≤ maxLen) (w2 : (Lit.int .i64 a2).wf = true) (w : World) :
    Calls Try.prog 3 #[.int .u64 a0, .string a1, .int .i64 a2] w fun e w' => e = .returned (.bool true) ∧ Below w.heap.size w w' := by
  have b0 : 0 ≤ a0 ∧ a0 ≤ 18446744073709551615 := by simpa [Lit.wf, IntKind.min, IntKind.max, IntKind.signed, IntKind.bits] using w0
  have b2 : -9223372036854775808 ≤ a2 ∧ a2 ≤ 9223372036854775807 := by simpa [Lit.wf, IntKind.min, IntKind.max, IntKind.signed, IntKind.bits] using w2
  clear w0 w2
  obtain ⟨b0, b01⟩ := b0
  obtain ⟨b2, b21⟩ := b2
  obtain ⟨v, rfl⟩ := Int.eq_ofNat_of_zero_le b0
  unfold maxLen at w1
  by_cases hl : 300 < a1.size
  · go_enter Try.func3, Try.ntmps3
    go_wp2_with fail
    refine (alive10_any _).mono ?_
    rintro e w' ⟨rfl, hB⟩
    go_wp2_with fail
    go_ret
    exact ⟨rfl, hB⟩
  · have hv : v < 18446744073709551616 := by omega
    have hlen := putV_le v hv
    have hj : ∀ s : ByteArray, s.data.toList = putV v ++ a1.data.toList → gvar s.data.toList = some (v, (putV v).length) := fun s h => by rw [h]; exact gvar_putV v _ hv
    have HJ := Lib.hid hj
    have Z1 := Lib.hid (unzig_zig a2)
    have Z2 := Lib.hid (zig_unzig (v : Int) b0)
    clear hj
    obtain ⟨xv, xk, xb, hx⟩ := gvRes_form (gvar a1.data.toList)
    have HX := Lib.hid hx
    clear hx
    go_enter Try.func3, Try.ntmps3
    go_wp2_with fail
    refine (getVarint_any a1 w1 _).mono ?_
    rintro e w' ⟨rfl, rfl⟩
    rw [HX.out]
    go_wp2_with fail
    refine (refGetVarint_any a1 w1 _).mono ?_
    rintro e w' ⟨rfl, rfl⟩
    rw [HX.out]
    go_wp2_with fail
    refine (putVarint_any v hv _).mono ?_
    rintro e w1 ⟨rfl, hB⟩
    go_wp2_with fail
    refine (getVarint_some _ v (putV v).length (by rw [ByteArray.size_append, size_mk]; omega) (HJ.out _ (by simp)) _).mono ?_
    rintro e w' ⟨rfl, rfl⟩
    go_wp2_with fail
    refine (alive10_any _).mono ?_
    rintro e w2 ⟨rfl, hB2⟩
    have hB3 : Below w.heap.size w w2 := hB.trans (hB2.mono hB.size)
    clear hB hB2
    go_wp2_with fail
    refine (refPutVarint_any v hv _).mono ?_
    rintro e w3 ⟨rfl, hB4⟩
    have hB5 : Below w.heap.size w w3 := hB3.trans (hB4.mono hB3.size)
    clear hB3 hB4
    go_wp2_with fail
    refine (zigzag_any a2 b2 b21 _).mono ?_
    rintro e w' ⟨rfl, rfl⟩
    go_wp2_with fail
    refine (refZigzag_any a2 b2 b21 _).mono ?_
    rintro e w' ⟨rfl, rfl⟩
    go_wp2_with fail
    refine (unzigzag_any v b0 b01 _).mono ?_
    rintro e w' ⟨rfl, rfl⟩
    go_wp2_with fail
    refine (refUnzigzag_any v b0 b01 _).mono ?_
    rintro e w' ⟨rfl, rfl⟩
    go_wp2_with fail
    refine (zigzag_any a2 b2 b21 _).mono ?_
    rintro e w' ⟨rfl, rfl⟩
    go_wp2_with fail
    refine (unzigzag_any (zig a2) (by unfold zig; split <;> omega) (by unfold zig; split <;> omega) _).mono ?_
    rintro e w' ⟨rfl, rfl⟩
    rw [Z1.out]
    go_wp2_with fail
    refine (unzigzag_any v b0 b01 _).mono ?_
    rintro e w' ⟨rfl, rfl⟩
    go_wp2_with fail
    refine (zigzag_any (unzig v) (by unfold unzig; split <;> omega) (by unfold unzig; split <;> omega) _).mono ?_
    rintro e w' ⟨rfl, rfl⟩
    rw [Z2.out]
    go_wp2_with fail
    go_ret
    exact ⟨rfl, hB5⟩
end Go.Proofs.Ytgdnibdahldekaa
